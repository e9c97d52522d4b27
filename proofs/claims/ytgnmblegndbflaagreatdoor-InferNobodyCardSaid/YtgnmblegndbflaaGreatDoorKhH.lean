/- Stores into rows; rows that hold still from now on; what is laid anew. -/
import Derived.Test.YtgnmblegndbflaaGreatDoorKhG
namespace Go.Proofs.Kh
set_option linter.all false
set_option linter.unusedVariables false
set_option linter.unusedSimpArgs false
open Go
section
variable {P : Program} {tm : Nat} {G : Gh} {st : St} {w : World} {x : AV}

/-- The place of an element's cell among all. -/
theorem in_row {sz i off n : Nat} {xs : List PD} (hi : i < xs.length) (ho : off + n ≤ sz) : i * sz + off + n ≤ xs.length * sz := by
  have : (i + 1) * sz ≤ xs.length * sz := Nat.mul_le_mul_right _ hi
  rw [Nat.add_mul] at this
  omega

theorem store_row {t : TypeId} {i : TypeInfo} {id n k off sz : Nat} {xs : List PD} {y y' : PD} {new : List AV} {ps : List PD} {va vx : Value} (inv : Inv G st w) (hi : P.info? t = some i) (h : RelV G st va (.rp id n k off)) (hx : RelV G st vx x)
    (hc : cellsOf x = some new) (hn : new.length = i.size) (hs : st[id]? = some (.row true sz xs)) (hl : xs.length = n) (hy : xs[k]? = some y) (hps : allPD new = some ps) (hle : off + i.size ≤ y.cells.length)
    (hy1 : y'.cells.length = y.cells.length) (hy2 : ∀ c, c ∈ y'.cells → c ∈ y.cells ∨ c ∈ ps)
    (hy3 : ∀ j, y'.cells[j]? = if j < off then y.cells[j]? else if j < off + ps.length then ps[j - off]? else y.cells[j]?) :
    YieldsU P tm G st w (Instr.storeAt t va vx) (st.set id (.row true sz (xs.set k y'))) := by
  have hlt : id < st.length := (List.getElem?_eq_some_iff.1 hs).1
  have hk : k < xs.length := (List.getElem?_eq_some_iff.1 hy).1
  obtain ⟨c1, c2, c3⟩ := cellsOf_rel hx hc
  obtain ⟨p1, p2⟩ := allPD_some new ps hps
  have hpl : ps.length = i.size := by rw [← hn, p1]; simp
  cases h with
  | rp _ _ _ _ _ hid ho hh =>
    obtain ⟨g, cap, hp, hlt2, rfl⟩ := (hh _ _ _ hs).2 hl
    obtain ⟨r1, r2, r3⟩ := inv.objs id _ hs
    rcases r3 with ⟨r3, r4⟩ | ⟨g', cap', cur, T, fr, e1, e2, ef, e3, e4, e5, e6, e7, e8⟩
    · rw [r3] at hp; cases hp
    · rw [hp] at e1; injection e1 with e1; injection e1 with e1 e1'; subst e1; subst e1'
      have hym := List.mem_of_getElem? hy
      have hysz := r1 y hym
      have hfl := flat_length xs r1
      have hle2 : xs.length * sz ≤ cap * sz := Nat.mul_le_mul_right _ e4
      have hin := in_row (sz := sz) (n := i.size) hk (by omega : off + i.size ≤ sz)
      have hM : ∀ o, G.M g o = none := by
        rcases e8 with ⟨_, a⟩ | ⟨a, _⟩
        · exact a
        · cases a
      have hvl : vx.cells.toList.length = i.size := by simp; omega
      have hrun := run_storeVar (P := P) (o := k * sz + off) hi (by omega : vx.cells.size = i.size) e2 ef (by omega) c2
      have hw' : ∀ z, z ∈ xs.set k y' → z.cells.length = sz := fun z hz => by
        rcases List.mem_or_eq_of_mem_set hz with h | h
        · exact r1 z h
        · rw [h]; omega
      obtain ⟨t1, t2⟩ := turn (tm := tm) inv hs (ob' := .row true sz (xs.set k y')) (G' := G)
        (w' := w.setRow g (cur.toList.take (k * sz + off) ++ vx.cells.toList ++ cur.toList.drop (k * sz + off + vx.cells.toList.length)).toArray)
        (fun _ _ => rfl) (Mem.le_refl _) (by simp) (fun b' hb' hne => ⟨setRow_other w g b' _ (fun e => hne cap (by rw [e]; exact hp)), fun _ => rfl⟩)
        (.inl ⟨true, _, by rw [List.getElem?_set_self hlt], by simp, fun _ => rfl⟩)
        (fun p hp' => ⟨by simpa using inv.lt id p hlt hp', .inl ⟨p.2, hp'⟩⟩)
        (fun b' o v hm => by
          by_cases hb' : b' = g
          · subst hb'; rw [hM] at hm; cases hm
          · rw [cell_setRow_other w g _ ⟨b', o, none⟩ hb']; exact inv.mem _ _ _ hm)
        (fun m hm hlow => by
          intro j cs hj hjs c hcm
          by_cases hji : j = id
          · subst hji
            rw [List.getElem?_set_self hlt] at hjs
            injection hjs with hjs; cases hjs
          · rw [List.getElem?_set_ne (Ne.symm hji)] at hjs
            exact hlow j cs hj hjs c hcm)
        rfl rfl rfl
        (fun ext => by
          refine ⟨hw', fun c hcm => ?_, .inr ⟨g, cap, _, T, fr, hp, setRow_heap w g cur _ T _ e2, ?_, ?_, by simpa using e4, e5, ?_, ?_, .inl ⟨rfl, hM⟩⟩⟩
          · simp only [flat, List.mem_flatMap] at hcm
            obtain ⟨z, hz, hcz⟩ := hcm
            rcases List.mem_or_eq_of_mem_set hz with h | h
            · exact r2 c (by simp only [flat, List.mem_flatMap]; exact ⟨z, h, hcz⟩)
            · subst h
              rcases hy2 c hcz with h | h
              · exact r2 c (by simp only [flat, List.mem_flatMap]; exact ⟨y, hym, h⟩)
              · exact p2 c h
          · have := lay_length cur.toList (k * sz + off) vx.cells.toList (by simp; omega)
            rw [List.size_toArray, this]; simpa using ef
          · have := lay_length cur.toList (k * sz + off) vx.cells.toList (by simp; omega)
            rw [List.size_toArray, this]; simpa using e3
          · intro j u hu
            rw [List.getElem?_toArray, lay_get cur.toList (k * sz + off) vx.cells.toList (by simp; omega)] at hu
            split at hu
            · exact e6 j u (by simpa using hu)
            · split at hu
              · exact c2 _ u (by simpa using hu)
              · exact e6 j u (by simpa using hu)
          · intro j u c hu hcc
            rw [List.getElem?_toArray, lay_get cur.toList (k * sz + off) vx.cells.toList (by simp; omega), hvl] at hu
            rw [flat_set_get xs r1 k y' hk (by omega)] at hcc
            by_cases hin1 : k * sz ≤ j ∧ j < k * sz + sz
            · rw [if_pos hin1, hy3] at hcc
              have hold : ∀ q, q < sz → (flat xs)[k * sz + q]? = y.cells[q]? := fun q hq => flat_at xs r1 k y hy q hq
              by_cases h1 : j < k * sz + off
              · rw [if_pos h1] at hu
                rw [if_pos (by omega)] at hcc
                rw [← hold _ (by omega)] at hcc
                exact e7 j u c (by simpa using hu) (by rw [← hcc]; congr 1; omega)
              · rw [if_neg h1] at hu
                rw [if_neg (by omega)] at hcc
                by_cases h2 : j < k * sz + off + i.size
                · rw [if_pos h2] at hu
                  rw [if_pos (by omega)] at hcc
                  have hcc' : new[j - (k * sz + off)]? = some (.pd c) := by
                    rw [p1]; simp only [List.getElem?_map, Option.map_eq_some_iff]
                    exact ⟨c, by rw [← hcc]; congr 1; omega, rfl⟩
                  exact (c3 _ u _ (by simpa using hu) hcc').pd_inv
                · rw [if_neg h2] at hu
                  rw [if_neg (by omega)] at hcc
                  have hj : j - k * sz < sz := by omega
                  rw [← hold _ hj] at hcc
                  exact e7 j u c (by simpa using hu) (by rw [← hcc]; congr 1; omega)
            · rw [if_neg hin1] at hcc
              by_cases h1 : j < k * sz + off
              · rw [if_pos h1] at hu
                exact e7 j u c (by simpa using hu) hcc
              · rw [if_neg h1, if_neg (by omega)] at hu
                exact e7 j u c (by simpa using hu) hcc)
      refine ⟨G, _, ?_, t1, t2⟩
      rw [storeAt_run]; exact hrun

theorem setEl_spec {y y' : PD} {off : Nat} {ps : List PD} (h : setEl y off ps = some y') (hp : ∀ p, p ∈ ps → p.single = true) (hle : off + ps.length ≤ y.cells.length) :
    y'.cells.length = y.cells.length ∧ (∀ c, c ∈ y'.cells → c ∈ y.cells ∨ c ∈ ps) ∧ ∀ j, y'.cells[j]? = if j < off then y.cells[j]? else if j < off + ps.length then ps[j - off]? else y.cells[j]? := by
  unfold setEl at h
  split at h
  · rename_i cs
    injection h with h; subst h
    simp only [PD.cells] at hle ⊢
    refine ⟨lay_length cs off ps hle, fun c hc => ?_, lay_get cs off ps hle⟩
    simp only [layPD, List.mem_append] at hc
    rcases hc with (h | h) | h
    · exact .inl (List.mem_of_mem_take h)
    · exact .inr h
    · exact .inl (List.mem_of_mem_drop h)
  · rename_i hne
    have hy1 : y.cells = [y] := by
      cases y with
      | agg cs => exact (hne cs rfl).elim
      | _ => rfl
    split at h
    · rename_i p
      injection h with h; subst h
      have hp1 : p.cells = [p] := by
        have := hp p (by simp)
        cases p with
        | agg cs => cases this
        | _ => rfl
      rw [hy1] at hle ⊢
      rw [hp1]
      simp only [List.length_cons, List.length_nil] at hle
      have ho : off = 0 := by omega
      subst ho
      refine ⟨rfl, fun c hc => .inr hc, fun j => ?_⟩
      cases j with
      | zero => simp
      | succ j => simp
    · cases h

theorem store_sound {t : TypeId} {i : TypeInfo} {a : AV} {va vx : Value} {st' : St} (inv : Inv G st w) (hi : P.info? t = some i) (h : RelV G st va a) (hx : RelV G st vx x)
    (hd : doStore tm i.size st a x = some st') : YieldsU P tm G st w (Instr.storeAt t va vx) st' := by
  unfold doStore at hd
  split at hd
  · cases hd
  · rename_i new hc
    split at hd
    · rename_i hn
      split at hd
      · rename_i id off
        split at hd
        · rename_i cells hs
          split at hd
          · rename_i hle
            injection hd with hd; subst hd
            exact store_var inv hi h hx hc hn hs hle
          · cases hd
        · cases hd
      · rename_i id k j off
        split at hd
        · rename_i sz xs hs
          split at hd
          · rename_i hl
            split at hd
            · rename_i y ps hy hps
              split at hd
              · rename_i hle
                split at hd
                · rename_i y' hy'
                  injection hd with hd; subst hd
                  obtain ⟨p1, p2⟩ := allPD_some new ps hps
                  have hpl : ps.length = i.size := by rw [← hn, p1]; simp
                  obtain ⟨a1, a2, a3⟩ := setEl_spec hy' p2 (by omega)
                  exact store_row inv hi h hx hc hn hs hl hy hps hle a1 a2 a3
                · cases hd
              · cases hd
            · cases hd
          · cases hd
        · cases hd
      · cases hd
    · cases hd

/-- A row that holds still from now on: what is read of it is known for good. -/
theorem frz1_ok (inv : Inv G st w) (x : AV) : ∃ G', Inv G' (frz1 st x) w ∧ Ext tm G st w G' (frz1 st x) w := by
  unfold frz1
  split
  · rename_i id n
    split
    · rename_i sz xs hs
      split
      · have hlt : id < st.length := (List.getElem?_eq_some_iff.1 hs).1
        obtain ⟨r1, r2, r3⟩ := inv.objs id _ hs
        have hage : ∀ m, m ≤ tm → Low st m → Low (st.set id (.row false sz xs)) m := fun m hm hlow => by
          intro j cs hj hjs c hcm
          by_cases hji : j = id
          · subst hji
            rw [List.getElem?_set_self hlt] at hjs
            injection hjs with hjs; cases hjs
          · rw [List.getElem?_set_ne (Ne.symm hji)] at hjs
            exact hlow j cs hj hjs c hcm
        rcases r3 with ⟨r3, r4⟩ | ⟨g, cap, cur, T, fr, e1, e2, ef, e3, e4, e5, e6, e7, e8⟩
        · exact ⟨G, turn (tm := tm) inv hs (ob' := .row false sz xs) (fun _ _ => rfl) (Mem.le_refl _) (Nat.le_refl _) (fun _ _ _ => ⟨rfl, fun _ => rfl⟩)
            (.inl ⟨false, xs, by rw [List.getElem?_set_self hlt], Nat.le_refl _, fun _ => rfl⟩) (fun p hp => by rw [r3] at hp; cases hp) inv.mem hage rfl rfl rfl
            (fun _ => ⟨r1, r2, .inl ⟨r3, r4⟩⟩)⟩
        · have hM : ∀ o, G.M g o = none := by
            rcases e8 with ⟨_, a⟩ | ⟨a, _⟩
            · exact a
            · cases a
          have hfl := flat_length xs r1
          have hle2 : xs.length * sz ≤ cap * sz := Nat.mul_le_mul_right _ e4
          have hle : Mem.le G.M (fun b o => if b = g ∧ o < (flat xs).length then cur[o]? else G.M b o) := fun b o v hm => by
            by_cases hb : b = g
            · subst hb; rw [hM] at hm; cases hm
            · simp [hb, hm]
          refine ⟨⟨fun b o => if b = g ∧ o < (flat xs).length then cur[o]? else G.M b o, G.ps⟩, turn (tm := tm) inv hs (ob' := .row false sz xs) (fun _ _ => rfl) hle (Nat.le_refl _)
            (fun b hb hne => ⟨rfl, fun o => by
              have : b ≠ g := fun e => hne cap (by rw [e]; exact e1)
              simp [this]⟩)
            (.inl ⟨false, xs, by rw [List.getElem?_set_self hlt], Nat.le_refl _, fun _ => rfl⟩) (fun p hp => ⟨inv.lt id p hlt hp, .inl ⟨p.2, hp⟩⟩)
            (fun b o v hm => by
              simp only at hm
              split at hm
              · rename_i hbo
                rw [hbo.1, cell_of_row w g o cur T _ e2]; exact hm
              · exact inv.mem _ _ _ hm) hage rfl rfl rfl
            (fun ext => ⟨r1, r2, .inr ⟨g, cap, cur, T, fr, e1, e2, ef, e3, e4, e5, e6, fun k v c hv hc => (e7 k v c hv hc).mono hle, .inr ⟨rfl, fun o ho => by simp [ho], fun o ho => ?_⟩⟩⟩)⟩
          have : ¬ o < (flat xs).length := by omega
          simp [this, hM]
      · exact ⟨G, inv, Ext.refl _ _ _ _⟩
    · exact ⟨G, inv, Ext.refl _ _ _ _⟩
  · exact ⟨G, inv, Ext.refl _ _ _ _⟩

theorem frzL_ok : ∀ (xs : List AV) {G : Gh} {st : St}, Inv G st w → ∃ G', Inv G' (frzL st xs) w ∧ Ext tm G st w G' (frzL st xs) w
  | [], G, st, inv => ⟨G, inv, Ext.refl _ _ _ _⟩
  | x :: r, G, st, inv => by
    obtain ⟨G1, i1, x1⟩ := frz1_ok (tm := tm) inv x
    obtain ⟨G2, i2, x2⟩ := frzL_ok r i1
    exact ⟨G2, i2, x1.trans x2⟩

theorem frz_ok (inv : Inv G st w) (x : AV) : ∃ G', Inv G' (frz st x) w ∧ Ext tm G st w G' (frz st x) w := by
  unfold frz
  split
  · exact frzL_ok _ inv
  · exact frz1_ok inv x

theorem frzA_ok : ∀ (xs : List AV) {G : Gh} {st : St}, Inv G st w → ∃ G', Inv G' (frzA st xs) w ∧ Ext tm G st w G' (frzA st xs) w
  | [], G, st, inv => ⟨G, inv, Ext.refl _ _ _ _⟩
  | x :: r, G, st, inv => by
    obtain ⟨G1, i1, x1⟩ := frz_ok (tm := tm) inv x
    obtain ⟨G2, i2, x2⟩ := frzA_ok r i1
    exact ⟨G2, i2, x1.trans x2⟩
end
end Go.Proofs.Kh
