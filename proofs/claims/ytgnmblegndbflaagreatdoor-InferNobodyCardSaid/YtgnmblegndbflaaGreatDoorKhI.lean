/- What is laid anew: variables, rows, what goes through a text; and slices that grow. -/
import Derived.Test.YtgnmblegndbflaaGreatDoorKhH
namespace Go.Proofs.Kh
set_option linter.all false
set_option linter.unusedVariables false
set_option linter.unusedSimpArgs false
open Go
section
variable {P : Program} {tm : Nat} {G : Gh} {st : St} {w : World} {x : AV}

/-- A world with one block more. -/
structure OneMore (w w' : World) (o : Go.Obj) : Prop where
  heap : w'.heap = w.heap.push o
  os : w'.os = w.os
  tape : w'.tape = w.tape
  output : w'.output = w.output

theorem OneMore.old {w w' : World} {o : Go.Obj} (h : OneMore w w' o) {b : Nat} (hb : b < w.heap.size) : w'.heap[b]? = w.heap[b]? := by
  rw [h.heap, Array.getElem?_push, if_neg (Nat.ne_of_lt hb)]
theorem OneMore.new {w w' : World} {o : Go.Obj} (h : OneMore w w' o) : w'.heap[w.heap.size]? = some o := by
  rw [h.heap]; simp
theorem OneMore.size {w w' : World} {o : Go.Obj} (h : OneMore w w' o) : w'.heap.size = w.heap.size + 1 := by
  rw [h.heap]; simp

theorem cell_lt {w : World} {b o : Nat} {v : Value} (h : w.cell? ⟨b, o, none⟩ = some v) : b < w.heap.size := by
  unfold World.cell? at h
  split at h
  · rename_i hh; exact (Array.getElem?_eq_some_iff.1 hh).1
  · cases h

theorem Inv.mem_lt (inv : Inv G st w) {b o : Nat} {v : Value} (h : G.M b o = some v) : b < w.heap.size := cell_lt (inv.mem b o v h)
theorem Inv.mem_none (inv : Inv G st w) {b : Nat} (hb : w.heap.size ≤ b) (o : Nat) : G.M b o = none := by
  cases h : G.M b o with
  | none => rfl
  | some v => have := inv.mem_lt h; omega

theorem cell_same {w w' : World} {b o : Nat} (h : w'.heap[b]? = w.heap[b]?) : w'.cell? ⟨b, o, none⟩ = w.cell? ⟨b, o, none⟩ := by
  unfold World.cell?; simp [h]

def Gh.put (G : Gh) (id : Nat) (p : Option (Nat × Nat)) : Gh := ⟨G.M, fun j => if j = id then p else G.ps j⟩
def Gh.hold (G : Gh) (b n : Nat) (cur : Array Value) : Gh := ⟨fun b' o => if b' = b ∧ o < n then cur[o]? else G.M b' o, G.ps⟩

/-- A variable is laid. -/
theorem push_var (inv : Inv G st w) (htm : tm ≤ st.length) {w' : World} {cur : Array Value} {T : TypeId} (h : OneMore w w' (.cells cur T)) {cells : List AV} (hl : cur.size = cells.length)
    (h1 : ∀ (k : Nat) (v : Value), cur[k]? = some v → oneCell v = true) (hr : ∀ (k : Nat) (v : Value) (c : AV), cur[k]? = some v → cells[k]? = some c → RelV G st v c) :
    ∃ G', Inv G' (st ++ [.var cells]) w' ∧ Ext tm G st w G' (st ++ [.var cells]) w' ∧ RelV G' (st ++ [.var cells]) (.pointer (some ⟨w.heap.size, 0, none⟩)) (.ptr st.length 0) := by
  obtain ⟨i1, i2⟩ := more (tm := tm) inv htm (ob := .var cells) (w' := w') (G' := G.put st.length (some (w.heap.size, 0)))
    (fun j hj => by simp [Gh.put, Nat.ne_of_lt hj]) (Mem.le_refl _) (by rw [h.size]; omega) (fun b hb => ⟨h.old hb, fun _ => rfl⟩)
    (fun p hp => by simp [Gh.put] at hp; subst hp; exact ⟨by rw [h.size]; simp, Nat.le_refl _⟩)
    (fun b o v hm => by rw [cell_same (h.old (inv.mem_lt hm))]; exact inv.mem b o v hm) h.os h.tape h.output
    (fun ext => by
      refine ⟨fun c hc => ?_, .inr ⟨w.heap.size, 0, cur, T, by simp [Gh.put], h.new, hl, h1, fun k v c hv hc => (hr k v c hv hc).ext ext, fun o => inv.mem_none (Nat.le_refl _) o⟩⟩
      obtain ⟨k, hk, e⟩ := List.getElem_of_mem hc
      have hk' : k < cur.size := by omega
      exact AV.und_mono (by simp) _ (hr k cur[k] c (by simp [hk']) (by simp [hk, e])).und)
  exact ⟨_, i1, i2, .ptr _ 0 _ 0 (by simp) (fun _ _ _ hh => by simp at hh) (by simp [Gh.put])⟩

/-- A row is laid. -/
theorem push_row (inv : Inv G st w) (htm : tm ≤ st.length) {w' : World} {cur : Array Value} {T : TypeId} {fr : Nat × Nat} (h : OneMore w w' (.cells cur T fr)) {mt : Bool} {sz cap : Nat} {xs : List PD} (hf : okFr cur.size fr) (hl : cur.size = cap * sz)
    (hc1 : xs.length ≤ cap) (hc2 : cap ≤ maxLen) (hw : ∀ x, x ∈ xs → x.cells.length = sz) (hs : ∀ c, c ∈ flat xs → c.single = true)
    (h1 : ∀ (k : Nat) (v : Value), cur[k]? = some v → oneCell v = true) (hr : ∀ (k : Nat) (v : Value) (c : PD), cur[k]? = some v → (flat xs)[k]? = some c → RelP G.M v c) :
    ∃ G', Inv G' (st ++ [.row mt sz xs]) w' ∧ Ext tm G st w G' (st ++ [.row mt sz xs]) w' ∧ RelV G' (st ++ [.row mt sz xs]) (.slice (some ⟨w.heap.size, 0, none⟩) xs.length cap) (.row st.length xs.length) := by
  have hfl := flat_length xs hw
  have hle2 : xs.length * sz ≤ cap * sz := Nat.mul_le_mul_right _ hc1
  cases mt with
  | true =>
    obtain ⟨i1, i2⟩ := more (tm := tm) inv htm (ob := .row true sz xs) (w' := w') (G' := G.put st.length (some (w.heap.size, cap)))
      (fun j hj => by simp [Gh.put, Nat.ne_of_lt hj]) (Mem.le_refl _) (by rw [h.size]; omega) (fun b hb => ⟨h.old hb, fun _ => rfl⟩)
      (fun p hp => by simp [Gh.put] at hp; subst hp; exact ⟨by rw [h.size]; simp, Nat.le_refl _⟩)
      (fun b o v hm => by rw [cell_same (h.old (inv.mem_lt hm))]; exact inv.mem b o v hm) h.os h.tape h.output
      (fun ext => ⟨hw, hs, .inr ⟨w.heap.size, cap, cur, T, fr, by simp [Gh.put], h.new, hf, hl, hc1, hc2, h1, hr, .inl ⟨rfl, fun o => inv.mem_none (Nat.le_refl _) o⟩⟩⟩)
    refine ⟨_, i1, i2, .row _ _ _ (by simp) rfl fun mt' sz' xs' hh => ?_⟩
    simp at hh
    obtain ⟨rfl, rfl, rfl⟩ := hh
    exact ⟨Nat.le_refl _, fun _ => by simp [Hdr, Gh.put]⟩
  | false =>
    have hle : Mem.le G.M (G.hold w.heap.size (flat xs).length cur).M := fun b o v hm => by
      have := inv.mem_lt hm
      simp only [Gh.hold]
      rw [if_neg (by omega)]; exact hm
    obtain ⟨i1, i2⟩ := more (tm := tm) inv htm (ob := .row false sz xs) (w' := w') (G' := (G.hold w.heap.size (flat xs).length cur).put st.length (some (w.heap.size, cap)))
      (fun j hj => by simp [Gh.put, Gh.hold, Nat.ne_of_lt hj]) hle (by rw [h.size]; omega) (fun b hb => ⟨h.old hb, fun o => by simp only [Gh.put, Gh.hold]; rw [if_neg (by omega)]⟩)
      (fun p hp => by simp [Gh.put] at hp; subst hp; exact ⟨by rw [h.size]; simp, Nat.le_refl _⟩)
      (fun b o v hm => by
        simp only [Gh.put, Gh.hold] at hm
        split at hm
        · rename_i hbo
          rw [hbo.1, cell_of_row w' _ o cur T _ h.new]; exact hm
        · rw [cell_same (h.old (inv.mem_lt hm))]; exact inv.mem b o v hm) h.os h.tape h.output
      (fun ext => ⟨hw, hs, .inr ⟨w.heap.size, cap, cur, T, fr, by simp [Gh.put], h.new, hf, hl, hc1, hc2, h1, fun k v c hv hc => (hr k v c hv hc).mono hle,
        .inr ⟨rfl, fun o ho => by simp [Gh.put, Gh.hold, ho], fun o ho => by
          simp only [Gh.put, Gh.hold]
          rw [if_neg (by omega)]; exact inv.mem_none (Nat.le_refl _) o⟩⟩⟩)
    refine ⟨_, i1, i2, .row _ _ _ (by simp) rfl fun mt' sz' xs' hh => ?_⟩
    simp at hh
    obtain ⟨rfl, rfl, rfl⟩ := hh
    exact ⟨Nat.le_refl _, fun _ => by simp [Hdr, Gh.put]⟩

/-- A slice of its own is laid that nobody writes to. -/
theorem push_tight (inv : Inv G st w) {w' : World} {cur : Array Value} {T : TypeId} (h : OneMore w w' (.cells cur T)) {sz : Nat} {xs : List PD} (hl : cur.size = xs.length * sz)
    (hc2 : xs.length ≤ maxLen) (hw : ∀ x, x ∈ xs → x.cells.length = sz) (hs : ∀ c, c ∈ flat xs → c.single = true)
    (hr : ∀ (k : Nat) (v : Value) (c : PD), cur[k]? = some v → (flat xs)[k]? = some c → RelP G.M v c) :
    ∃ G', Inv G' st w' ∧ Ext tm G st w G' st w' ∧ RelV G' st (.slice (some ⟨w.heap.size, 0, none⟩) xs.length xs.length) (.tight xs) := by
  have hfl := flat_length xs hw
  have hle : Mem.le G.M (G.hold w.heap.size (flat xs).length cur).M := fun b o v hm => by
    have := inv.mem_lt hm
    simp only [Gh.hold]
    rw [if_neg (by omega)]; exact hm
  obtain ⟨i1, i2⟩ := still (tm := tm) inv (M' := (G.hold w.heap.size (flat xs).length cur).M) (w' := w') hle (by rw [h.size]; omega)
    (fun b hb => ⟨h.old hb, fun o => by simp only [Gh.hold]; rw [if_neg (by omega)]⟩)
    (fun b o v hm => by
      simp only [Gh.hold] at hm
      split at hm
      · rename_i hbo
        rw [hbo.1, cell_of_row w' _ o cur T _ h.new]; exact hm
      · rw [cell_same (h.old (inv.mem_lt hm))]; exact inv.mem b o v hm) h.os h.tape h.output
  refine ⟨_, i1, i2, .tight _ _ _ (.sl w.heap.size 0 xs.length sz xs (fun k => cur.getD k undef) (Nat.le_refl _) hc2 hw hs (fun k hk => ?_) (fun k c hc => ?_))⟩
  · have hk' : k < cur.size := by omega
    simp [Gh.hold, hk, hk']
  · have hk : k < (flat xs).length := (List.getElem?_eq_some_iff.1 hc).1
    have hk' : k < cur.size := by omega
    exact (hr k _ c (by simp [hk']) hc).mono hle

/-- An empty row is laid, for a slice that is nil. -/
theorem push_empty (inv : Inv G st w) (htm : tm ≤ st.length) (mt : Bool) (sz : Nat) :
    ∃ G', Inv G' (st ++ [.row mt sz []]) w ∧ Ext tm G st w G' (st ++ [.row mt sz []]) w ∧ RelV G' (st ++ [.row mt sz []]) (.slice none 0 0) (.row st.length 0) := by
  obtain ⟨i1, i2⟩ := more (tm := tm) inv htm (ob := .row mt sz []) (w' := w) (G' := G.put st.length none)
    (fun j hj => by simp [Gh.put, Nat.ne_of_lt hj]) (Mem.le_refl _) (Nat.le_refl _) (fun b hb => ⟨rfl, fun _ => rfl⟩)
    (fun p hp => by simp [Gh.put] at hp) inv.mem rfl rfl rfl
    (fun ext => ⟨fun x hx => by simp at hx, fun c hc => by simp [flat] at hc, .inl ⟨by simp [Gh.put], rfl⟩⟩)
  refine ⟨_, i1, i2, .row _ _ _ (by simp) rfl fun mt' sz' xs' hh => ?_⟩
  simp at hh
  obtain ⟨rfl, rfl, rfl⟩ := hh
  exact ⟨Nat.le_refl _, fun _ => by simp [Hdr, Gh.put]⟩

theorem alloc_oneMore (w : World) (o : Go.Obj) : OneMore w (w.alloc o) o := ⟨rfl, rfl, rfl, rfl⟩
theorem run_newRow (T : TypeId) (cells : Array Value) : (newRow T cells).run P w = .ok ⟨w.heap.size, 0, none⟩ (w.alloc (.cells cells T)) := by
  simp only [newRow, Sem.run_bind, run_newObj, Result.andThen_ok, Sem.run_pure]
  rfl
end
end Go.Proofs.Kh
