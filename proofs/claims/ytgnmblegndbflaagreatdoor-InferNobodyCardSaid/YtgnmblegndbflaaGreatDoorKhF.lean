/- Loads and stores. -/
import Derived.Test.YtgnmblegndbflaaGreatDoorKhE
namespace Go.Proofs.Kh
set_option linter.all false
set_option linter.unusedVariables false
set_option linter.unusedSimpArgs false
open Go

def Yields (P : Program) (tm : Nat) (G : Gh) (st : St) (w : World) (s : Sem Value) (x : AV) (st' : St) : Prop :=
  ∃ v G' w', s.run P w = .ok v w' ∧ RelV G' st' v x ∧ Inv G' st' w' ∧ Ext tm G st w G' st' w'

section
variable {P : Program} {tm : Nat} {G : Gh} {st : St} {w : World} {s : Sem Value} {x : AV}

theorem Yields.same {v : Value} (hr : s.run P w = .ok v w) (h : RelV G st v x) (inv : Inv G st w) : Yields P tm G st w s x st :=
  ⟨v, G, w, hr, h, inv, Ext.refl _ _ _ _⟩

def aggOf (P : Program) (t : TypeId) : Option Bool :=
  match P.underlying t with
  | some (.struct _) => some true
  | some (.array _ _) => some true
  | some _ => some false
  | none => none

theorem run_isAgg {t : TypeId} {b : Bool} (h : aggOf P t = some b) : (isAgg t).run P w = .ok b w := by
  unfold aggOf at h
  cases hu : P.underlying t with
  | none => rw [hu] at h; cases h
  | some d =>
    rw [hu] at h
    unfold isAgg
    simp only [Sem.run_bind, run_underlying hu, Result.andThen_ok]
    cases d <;> simp_all

def arr (n : Nat) (f : Nat → Value) : Array Value := ((List.range n).map f).toArray

theorem arr_size (n : Nat) (f : Nat → Value) : (arr n f).size = n := by simp [arr]
theorem arr_get (n : Nat) (f : Nat → Value) (k : Nat) : (arr n f)[k]? = if k < n then some (f k) else none := by
  simp only [arr, List.getElem?_toArray, List.getElem?_map]
  by_cases h : k < n
  · simp [h]
  · simp [h]

theorem run_info {t : TypeId} {i : TypeInfo} (hi : P.info? t = some i) : (sizeOf t).run P w = .ok i.size w := by
  simp [sizeOf, typeInfo, hi]

theorem run_loadVar_agg {t : TypeId} {i : TypeInfo} {b o : Nat} {f : Nat → Value} (hi : P.info? t = some i) (ha : aggOf P t = some true) (h : ∀ j, j < i.size → w.cell? ⟨b, o + j, none⟩ = some (f j)) :
    (loadVar t ⟨b, o, none⟩).run P w = .ok (.agg (arr i.size f)) w := by
  have hl := run_loadCells_list (P := P) (w := w) ⟨b, o, none⟩ ((List.range i.size).map f) (fun j v hv => by
    have hj : j < i.size := by have := (List.getElem?_eq_some_iff.1 hv).1; simpa using this
    have : v = f j := by simp [hj] at hv; exact hv.symm
    subst this
    have e : (⟨b, o, none⟩ : Addr).add j = ⟨b, o + j, none⟩ := by unfold Addr.add; split <;> simp_all
    rw [e]; exact h j hj)
  simp only [List.length_map, List.length_range] at hl
  unfold loadVar
  simp only [Sem.run_bind, run_isAgg ha, Result.andThen_ok, if_true, run_info hi, hl, Sem.run_pure]
  rfl

theorem run_loadVar_one {t : TypeId} {b o : Nat} {v : Value} (ha : aggOf P t = some false) (h : w.cell? ⟨b, o, none⟩ = some v) :
    (loadVar t ⟨b, o, none⟩).run P w = .ok v w := by
  unfold loadVar
  simp only [Sem.run_bind, run_isAgg ha, Result.andThen_ok]
  simp [h]

/-- Cells of a variable, read. -/
theorem load_cells0 {t : TypeId} {i : TypeInfo} {agg : Bool} {b o : Nat} {f : Nat → Value} {cells : List AV} {off : Nat} (hi : P.info? t = some i) (ha : aggOf P t = some agg)
    (hc : ∀ j c, cells[j]? = some c → ∃ v, w.cell? ⟨b, o + j, none⟩ = some v ∧ v = f j ∧ oneCell v = true ∧ RelV G st v c) (hx : ofCells agg i.size cells off = some x) :
    ∃ v, (loadVar t ⟨b, o + off, none⟩).run P w = .ok v w ∧ RelV G st v x := by
  unfold ofCells at hx
  cases agg with
  | false =>
    simp only [Bool.false_eq_true, if_false] at hx
    obtain ⟨v, h1, _, _, h2⟩ := hc _ _ hx
    exact ⟨_, run_loadVar_one ha h1, h2⟩
  | true =>
    simp only [if_true] at hx
    split at hx
    · rename_i hle
      injection hx with hx; subst hx
      have hj : ∀ j, j < i.size → off + j < cells.length := fun j hj => by omega
      refine ⟨_, run_loadVar_agg (f := fun j => f (off + j)) hi ha (fun j h => ?_), mkAgg_rel (.agg _ _ ?_ ?_ ?_)⟩
      · have h' := hj j h
        obtain ⟨v, h1, h2, _⟩ := hc (off + j) cells[off + j] (by simp [h'])
        rw [Nat.add_assoc, h1, h2]
      · simp [arr_size]; omega
      · intro k v hv
        rw [arr_get] at hv
        split at hv
        · rename_i hk
          injection hv with hv; subst hv
          have h' := hj k hk
          obtain ⟨v, h1, h2, h3, _⟩ := hc (off + k) cells[off + k] (by simp [h'])
          rw [← h2]; exact h3
        · cases hv
      · intro k v c hv hcc
        rw [arr_get] at hv
        split at hv
        · rename_i hk
          injection hv with hv; subst hv
          have h' := hj k hk
          obtain ⟨v, h1, h2, h3, h4⟩ := hc (off + k) cells[off + k] (by simp [h'])
          rw [← h2]
          have : c = cells[off + k] := by
            rw [List.getElem?_take, if_pos hk, List.getElem?_drop] at hcc
            simp [h'] at hcc; exact hcc.symm
          rw [this]; exact h4
        · cases hv
    · cases hx

theorem load_cells {t : TypeId} {i : TypeInfo} {agg : Bool} {b o : Nat} {f : Nat → Value} {cells : List AV} {off : Nat} (inv : Inv G st w) (hi : P.info? t = some i) (ha : aggOf P t = some agg)
    (hc : ∀ j c, cells[j]? = some c → ∃ v, w.cell? ⟨b, o + j, none⟩ = some v ∧ v = f j ∧ oneCell v = true ∧ RelV G st v c) (hx : ofCells agg i.size cells off = some x) :
    Yields P tm G st w (loadVar t ⟨b, o + off, none⟩) x st := by
  obtain ⟨v, h1, h2⟩ := load_cells0 hi ha hc hx
  exact .same h1 h2 inv

theorem load_cellsPD {t : TypeId} {i : TypeInfo} {agg : Bool} {b o : Nat} {f : Nat → Value} {cells : List PD} {off : Nat} {p : PD} (inv : Inv G st w) (hi : P.info? t = some i) (ha : aggOf P t = some agg)
    (hc : ∀ j c, cells[j]? = some c → w.cell? ⟨b, o + j, none⟩ = some (f j) ∧ c.single = true ∧ RelP G.M (f j) c) (hx : ofCellsPD agg i.size cells off = some p) :
    Yields P tm G st w (loadVar t ⟨b, o + off, none⟩) (.pd p) st := by
  unfold ofCellsPD at hx
  cases agg with
  | false =>
    simp only [Bool.false_eq_true, if_false] at hx
    obtain ⟨h1, _, h2⟩ := hc _ _ hx
    exact .same (run_loadVar_one ha h1) (.pd _ _ h2) inv
  | true =>
    simp only [if_true] at hx
    split at hx
    · rename_i hle
      injection hx with hx; subst hx
      have hj : ∀ j, j < i.size → off + j < cells.length := fun j hj => by omega
      refine .same (run_loadVar_agg (f := fun j => f (off + j)) hi ha (fun j h => ?_)) (.pd _ _ (.agg _ _ ?_ ?_ ?_)) inv
      · have h' := hj j h
        obtain ⟨h1, _⟩ := hc (off + j) cells[off + j] (by simp [h'])
        rw [Nat.add_assoc, h1]
      · simp [arr_size]; omega
      · intro c hm
        have hm' := List.mem_of_mem_drop (List.mem_of_mem_take hm)
        obtain ⟨k, hk, e⟩ := List.getElem_of_mem hm'
        exact (hc k c (by simp [hk, e])).2.1
      · intro k v c hv hcc
        rw [arr_get] at hv
        split at hv
        · rename_i hk
          injection hv with hv; subst hv
          have h' := hj k hk
          obtain ⟨h1, h2, h3⟩ := hc (off + k) cells[off + k] (by simp [h'])
          have : c = cells[off + k] := by
            rw [List.getElem?_take, if_pos hk, List.getElem?_drop] at hcc
            simp [h'] at hcc; exact hcc.symm
          rw [this]; exact h3
        · cases hv
    · cases hx

/-- What a row of the machine's has in the model's memory. -/
theorem row_cells (inv : Inv G st w) {id sz : Nat} {mt : Bool} {xs : List PD} (hs : st[id]? = some (.row mt sz xs)) {g cap : Nat} (hp : G.ps id = some (g, cap)) (j : Nat) (c : PD) (hc : (flat xs)[j]? = some c) :
    ∃ v, w.cell? ⟨g, j, none⟩ = some v ∧ oneCell v = true ∧ RelP G.M v c := by
  obtain ⟨h1, h2, h3⟩ := inv.objs id _ hs
  rcases h3 with ⟨h3, h4⟩ | ⟨g', cap', cur, T, fr, e1, e2, ef, e3, e4, e5, e6, e7, e8⟩
  · rw [h3] at hp; cases hp
  · rw [hp] at e1; injection e1 with e1; injection e1 with e1 e1'; subst e1; subst e1'
    have hk : j < (flat xs).length := (List.getElem?_eq_some_iff.1 hc).1
    rw [flat_length xs h1] at hk
    have hle : xs.length * sz ≤ cap * sz := Nat.mul_le_mul_right _ e4
    have hj : j < cur.size := by omega
    refine ⟨cur[j], by rw [cell_of_row w g j cur T _ e2]; simp [hj], e6 j _ (by simp [hj]), e7 j _ c (by simp [hj]) hc⟩

theorem sureAddr_run {a : Addr} : (Instr.sureAddr (.pointer (some a))).run P w = .ok a w := rfl

theorem loadAt_run {t : TypeId} {a : Addr} : (Instr.loadAt t (.pointer (some a))).run P w = (loadVar t a).run P w := by
  simp [Instr.loadAt, sureAddr_run]

theorem Yields.of_run {s' : Sem Value} {st' : St} (h : Yields P tm G st w s x st') (e : s'.run P w = s.run P w) : Yields P tm G st w s' x st' := by
  obtain ⟨v, G', w', h1, h2, h3, h4⟩ := h
  exact ⟨v, G', w', e.trans h1, h2, h3, h4⟩

theorem load_sound {t : TypeId} {i : TypeInfo} {agg : Bool} {a : AV} {va : Value} (inv : Inv G st w) (hi : P.info? t = some i) (ha : aggOf P t = some agg)
    (h : RelV G st va a) (hx : doLoad agg i.size st a = some x) : Yields P tm G st w (Instr.loadAt t va) x st := by
  cases a with
  | ptr id off =>
    simp only [doLoad] at hx
    split at hx
    · rename_i cells hs
      cases h with
      | ptr _ _ b c hid hr hp =>
        rcases (inv.objs id _ hs).2 with h0 | ⟨b', c', cur, T, e1, e2, e3, e4, e5, e6⟩
        · rw [h0] at hp; cases hp
        · rw [hp] at e1; injection e1 with e1; injection e1 with e1 e1'; subst e1; subst e1'
          have hy := load_cells (P := P) (tm := tm) (b := b) (o := 0) (f := fun j => cur.getD j undef) (off := off) (cells := cells) inv hi ha (fun j cc hj => by
            have hl : j < cells.length := (List.getElem?_eq_some_iff.1 hj).1
            have hl' : j < cur.size := by omega
            refine ⟨cur[j], ?_, by simp [hl'], e4 j _ (by simp [hl']), e5 j _ cc (by simp [hl']) hj⟩
            rw [Nat.zero_add, cell_of_row w b j cur T _ e2]; simp [hl']) hx
          rw [Nat.zero_add] at hy
          exact hy.of_run loadAt_run
    · cases hx
  | pd y =>
    cases y with
    | ref cs off =>
      simp only [doLoad, Option.map_eq_some_iff] at hx
      obtain ⟨p, hx, rfl⟩ := hx
      cases h with
      | pd _ _ h =>
        cases h with
        | ref b o _ _ vf hs hM hr =>
          have hy := load_cellsPD (P := P) (tm := tm) (b := b) (o := o) (f := vf) (off := off) (cells := cs) inv hi ha (fun j c hj => by
            have hl : j < cs.length := (List.getElem?_eq_some_iff.1 hj).1
            refine ⟨inv.mem _ _ _ (hM j hl), hs c (List.mem_of_getElem? hj), hr j c hj⟩) hx
          exact hy.of_run loadAt_run
    | _ => simp [doLoad] at hx
  | rp id k idx off =>
    simp only [doLoad] at hx
    split at hx
    · rename_i mt sz xs hs
      split at hx
      · rename_i hk
        split at hx
        · rename_i e he
          simp only [Option.map_eq_some_iff] at hx
          obtain ⟨p, hx, rfl⟩ := hx
          cases h with
          | rp _ _ _ _ _ hid ho hh =>
            obtain ⟨g, cap, hp, hlt, rfl⟩ := (hh _ _ _ hs).2 hk
            obtain ⟨h1, h2, h3⟩ := inv.objs id _ hs
            have hw := h1 e (List.mem_of_getElem? he)
            have hy := load_cellsPD (P := P) (tm := tm) (b := g) (o := idx * sz) (f := fun j => (w.cell? ⟨g, idx * sz + j, none⟩).getD undef) (off := off) (cells := e.cells) inv hi ha (fun j c hj => by
              have hl : j < e.cells.length := (List.getElem?_eq_some_iff.1 hj).1
              have hf := flat_at xs h1 idx e he j (by omega)
              rw [hj] at hf
              obtain ⟨v, f1, f2, f3⟩ := row_cells inv hs hp _ c hf
              rw [f1]
              exact ⟨rfl, h2 c (List.mem_of_getElem? hf), f3⟩) hx
            exact hy.of_run loadAt_run
        · cases hx
      · cases hx
    · cases hx
  | _ => simp [doLoad] at hx
end
end Go.Proofs.Kh
