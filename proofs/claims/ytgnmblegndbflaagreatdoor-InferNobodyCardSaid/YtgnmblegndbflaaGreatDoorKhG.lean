/- Stores; rows that are written to no more; what is laid anew. -/
import Derived.Test.YtgnmblegndbflaaGreatDoorKhF
namespace Go.Proofs.Kh
set_option linter.all false
set_option linter.unusedVariables false
set_option linter.unusedSimpArgs false
open Go

theorem lay_get {α : Type} (cells : List α) (off : Nat) (new : List α) (h : off + new.length ≤ cells.length) (k : Nat) :
    (cells.take off ++ new ++ cells.drop (off + new.length))[k]? = if k < off then cells[k]? else if k < off + new.length then new[k - off]? else cells[k]? := by
  have h1 : (cells.take off).length = off := by simp; omega
  by_cases hk : k < off
  · rw [if_pos hk, List.append_assoc, List.getElem?_append_left (by omega), List.getElem?_take, if_pos hk]
  · rw [if_neg hk, List.append_assoc, List.getElem?_append_right (by omega), h1]
    by_cases hk2 : k < off + new.length
    · rw [if_pos hk2, List.getElem?_append_left (by omega)]
    · rw [if_neg hk2, List.getElem?_append_right (by omega), List.getElem?_drop]
      congr 1; omega

theorem lay_length {α : Type} (cells : List α) (off : Nat) (new : List α) (h : off + new.length ≤ cells.length) :
    (cells.take off ++ new ++ cells.drop (off + new.length)).length = cells.length := by
  simp; omega

theorem oneCell_eq (v : Value) : oneCell v = v.oneCell' := by cases v <;> rfl

def YieldsU (P : Program) (tm : Nat) (G : Gh) (st : St) (w : World) (s : Sem Unit) (st' : St) : Prop :=
  ∃ G' w', s.run P w = .ok () w' ∧ Inv G' st' w' ∧ Ext tm G st w G' st' w'

section
variable {P : Program} {tm : Nat} {G : Gh} {st : St} {w : World} {x : AV}

theorem storeCells_fr (g o : Nat) (t : TypeId) (fr : Nat × Nat) : ∀ (vs : List Value) (i : Nat) (cur : Array Value) (w : World), w.heap[g]? = some (.cells cur t fr) → okFr cur.size fr → o + i + vs.length ≤ cur.size → (∀ v, v ∈ vs → v.oneCell' = true) →
    (storeCells ⟨g, o, none⟩ vs i).run P w = .ok () (w.setRow g (cur.toList.take (o + i) ++ vs ++ cur.toList.drop (o + i + vs.length)).toArray)
  | [], i, cur, w, hg, _, _, _ => by
    simp only [storeCells, List.append_nil, List.length_nil, Nat.add_zero, List.take_append_drop, Array.toArray_toList]
    rw [setRow_self w g cur t fr hg]
    rfl
  | v :: rest, i, cur, w, hg, hf, hl, h1 => by
    have hi : o + i < cur.size := by simp at hl; omega
    have hadd : (⟨g, o, none⟩ : Addr).add i = ⟨g, o + i, none⟩ := by unfold Addr.add; split <;> simp_all
    have hcell : w.cell? ⟨g, o + i, none⟩ = some cur[o + i] := by simp [World.cell?, hg, hi]
    have hfro : w.frozen? ⟨g, o + i, none⟩ = false := by
      obtain ⟨lo, hi'⟩ := fr
      have := hf (o + i) hi
      simp only [World.frozen?, hg, Bool.and_eq_false_iff, decide_eq_false_iff_not]
      simp only at this
      omega
    have hst : (store ((⟨g, o, none⟩ : Addr).add i) v).run P w = .ok () (w.setRow g (cur.setIfInBounds (o + i) v)) := by
      rw [hadd, run_store P w _ v _ (h1 v (by simp)), hcell]
      simp [hfro, setCell_eq_setRow w g (o + i) cur t fr v hg]
    have ih := storeCells_fr g o t fr rest (i + 1) (cur.setIfInBounds (o + i) v) (w.setRow g (cur.setIfInBounds (o + i) v)) (setRow_heap w g cur _ t _ hg) (by simpa using hf) (by simp at hl ⊢; omega) (fun x hx => h1 x (by simp [hx]))
    simp only [storeCells, Sem.run_bind, hst, Result.andThen_ok, ih, setRow_setRow]
    congr 3
    apply List.ext_getElem?
    intro j
    rw [lay_get _ _ _ (by simp at hl ⊢; omega), lay_get _ _ _ (by simp at hl ⊢; omega)]
    simp only [List.length_cons]
    by_cases h1 : j < o + i
    · rw [if_pos (by omega), if_pos h1, Array.toList_setIfInBounds, List.getElem?_set_ne (by omega)]
    · by_cases h2 : j = o + i
      · subst h2
        rw [if_pos (by omega), if_neg (by omega), if_pos (by omega)]
        simp [hi]
      · rw [if_neg (by omega), if_neg h1]
        by_cases h3 : j < o + i + (rest.length + 1)
        · rw [if_pos (by omega), if_pos h3]
          rw [show j - (o + i) = (j - (o + (i + 1))) + 1 by omega, List.getElem?_cons_succ]
        · rw [if_neg (by omega), if_neg h3, Array.toList_setIfInBounds, List.getElem?_set_ne (by omega)]

theorem run_storeVar {t : TypeId} {i : TypeInfo} {b o : Nat} {T : TypeId} {fr : Nat × Nat} {cur : Array Value} {v : Value} (hi : P.info? t = some i) (hs : v.cells.size = i.size) (hb : w.heap[b]? = some (.cells cur T fr)) (hf : okFr cur.size fr)
    (hl : o + i.size ≤ cur.size) (h1 : ∀ (k : Nat) (u : Value), v.cells[k]? = some u → oneCell u = true) :
    (storeVar t ⟨b, o, none⟩ v).run P w = .ok () (w.setRow b (cur.toList.take o ++ v.cells.toList ++ cur.toList.drop (o + v.cells.toList.length)).toArray) := by
  have hst := storeCells_fr (P := P) b o T fr v.cells.toList 0 cur w hb hf (by simp; omega) (fun u hu => by
    obtain ⟨k, hk, e⟩ := List.getElem_of_mem hu
    rw [← oneCell_eq]; exact h1 k u (by simp at hk e; simp [hk, e]))
  simp only [Nat.add_zero] at hst
  unfold storeVar
  simp only [Sem.run_bind, run_info hi, Result.andThen_ok]
  rw [if_neg (by simp [hs])]
  exact hst

theorem aged_und {G : Gh} {st : St} {v : Value} {x : AV} (h : RelV G st v x) {tm id : Nat} (hid : id < st.length) : (aged st tm id x).und st.length = true := by
  unfold aged
  split
  · exact h.und
  · exact AV.und_mono (by omega) _ (AV.clip_und (id + 1) _)

theorem storeAt_run {t : TypeId} {a : Addr} {v : Value} : (Instr.storeAt t (.pointer (some a)) v).run P w = (storeVar t a v).run P w := by
  simp [Instr.storeAt, sureAddr_run]

theorem store_var {t : TypeId} {i : TypeInfo} {id off : Nat} {cells new : List AV} {va vx : Value} (inv : Inv G st w) (hi : P.info? t = some i) (h : RelV G st va (.ptr id off)) (hx : RelV G st vx x)
    (hc : cellsOf x = some new) (hn : new.length = i.size) (hs : st[id]? = some (.var cells)) (hle : off + i.size ≤ cells.length) :
    YieldsU P tm G st w (Instr.storeAt t va vx) (st.set id (.var (lay cells off (new.map (aged st tm id))))) := by
  have hlt : id < st.length := (List.getElem?_eq_some_iff.1 hs).1
  obtain ⟨c1, c2, c3⟩ := cellsOf_rel hx hc
  cases h with
  | ptr _ _ b c hid hr hp =>
    obtain ⟨hund, hob⟩ := inv.objs id _ hs
    rcases hob with h0 | ⟨b', c', cur, T, e1, e2, e3, e4, e5, e6⟩
    · rw [h0] at hp; cases hp
    · rw [hp] at e1; injection e1 with e1; injection e1 with e1 e1'; subst e1; subst e1'
      have hrun := run_storeVar (P := P) (o := off) hi (by omega : vx.cells.size = i.size) e2 (fun _ _ h => by omega) (by omega) c2
      have hbl : b < w.heap.size := (Array.getElem?_eq_some_iff.1 e2).1
      have hnl : (new.map (aged st tm id)).length = i.size := by simp [hn]
      have hvl : vx.cells.toList.length = i.size := by simp; omega
      obtain ⟨t1, t2⟩ := turn (tm := tm) inv hs (ob' := .var (lay cells off (new.map (aged st tm id)))) (G' := G)
        (w' := w.setRow b (cur.toList.take off ++ vx.cells.toList ++ cur.toList.drop (off + vx.cells.toList.length)).toArray)
        (fun _ _ => rfl) (Mem.le_refl _) (by simp) (fun b' hb' hne => ⟨setRow_other w b b' _ (fun e => hne c (by rw [e]; exact hp)), fun _ => rfl⟩)
        ⟨fun _ h => h, .inl ⟨_, by rw [List.getElem?_set_self hlt]⟩⟩
        (fun p hp' => ⟨by simpa using inv.lt id p hlt hp', .inl ⟨p.2, hp'⟩⟩)
        (fun b' o v hm => by
          by_cases hb' : b' = b
          · subst hb'; rw [e6] at hm; cases hm
          · rw [cell_setRow_other w b _ ⟨b', o, none⟩ hb']; exact inv.mem _ _ _ hm)
        (fun m hm hlow => by
          intro j cs hj hjs c hcm
          by_cases hji : j = id
          · subst hji
            rw [List.getElem?_set_self hlt] at hjs
            injection hjs with hjs; injection hjs with hjs; subst hjs
            simp only [lay, List.mem_append, List.mem_map] at hcm
            rcases hcm with (hcm | ⟨y, hy, rfl⟩) | hcm
            · exact hlow j cells hj hs c (List.mem_of_mem_take hcm)
            · unfold aged
              rw [if_neg (by omega)]
              exact AV.und_mono (by omega) _ (AV.clip_und _ _)
            · exact hlow j cells hj hs c (List.mem_of_mem_drop hcm)
          · rw [List.getElem?_set_ne (Ne.symm hji)] at hjs
            exact hlow j cs hj hjs c hcm)
        rfl rfl rfl
        (fun ext => by
          refine ⟨fun cc hcm => ?_, .inr ⟨b, c, _, T, hp, setRow_heap w b cur _ T _ e2, ?_, ?_, ?_, e6⟩⟩
          · rw [List.length_set]
            simp only [lay, List.mem_append, List.mem_map] at hcm
            rcases hcm with (hcm | ⟨y, hy, rfl⟩) | hcm
            · exact hund cc (List.mem_of_mem_take hcm)
            · obtain ⟨k, hk, e⟩ := List.getElem_of_mem hy
              have hk' : k < vx.cells.size := by omega
              exact aged_und (c3 k vx.cells[k] y (by simp [hk']) (by simp [hk, e])) hlt
            · exact hund cc (List.mem_of_mem_drop hcm)
          · have := lay_length cells off (new.map (aged st tm id)) (by omega)
            unfold lay
            rw [this]
            have := lay_length cur.toList off vx.cells.toList (by simp; omega)
            rw [List.size_toArray, this]; simpa using e3
          · intro k u hu
            rw [List.getElem?_toArray, lay_get cur.toList off vx.cells.toList (by simp; omega)] at hu
            split at hu
            · exact e4 k u (by simpa using hu)
            · split at hu
              · exact c2 _ u (by simpa using hu)
              · exact e4 k u (by simpa using hu)
          · intro k u cc hu hcc
            rw [List.getElem?_toArray, lay_get cur.toList off vx.cells.toList (by simp; omega), hvl] at hu
            unfold lay at hcc
            rw [lay_get cells off (new.map (aged st tm id)) (by omega), hnl] at hcc
            split at hu
            · rename_i hk; rw [if_pos hk] at hcc
              exact (e5 k u cc (by simpa using hu) hcc).ext ext
            · rename_i hk; rw [if_neg hk] at hcc
              split at hu
              · rename_i hk2; rw [if_pos hk2] at hcc
                simp only [List.getElem?_map, Option.map_eq_some_iff] at hcc
                obtain ⟨y, hy, rfl⟩ := hcc
                exact (aged_rel inv (c3 _ u y (by simpa using hu) hy) tm id).ext ext
              · rename_i hk2; rw [if_neg hk2] at hcc
                exact (e5 k u cc (by simpa using hu) hcc).ext ext)
      refine ⟨G, _, ?_, t1, t2⟩
      rw [storeAt_run]; exact hrun

theorem flat_set_get {sz : Nat} (xs : List PD) (hw : ∀ x, x ∈ xs → x.cells.length = sz) (i : Nat) (y : PD) (hi : i < xs.length) (hy : y.cells.length = sz) (k : Nat) :
    (flat (xs.set i y))[k]? = if i * sz ≤ k ∧ k < i * sz + sz then y.cells[k - i * sz]? else (flat xs)[k]? := by
  have hw' : ∀ x, x ∈ xs.set i y → x.cells.length = sz := fun x hx => by
    rcases List.mem_or_eq_of_mem_set hx with h | h
    · exact hw x h
    · rw [h]; exact hy
  rcases Nat.eq_zero_or_pos sz with h0 | h0
  · subst h0
    have e1 := flat_length (xs.set i y) hw'
    have e2 := flat_length xs hw
    rw [Nat.mul_zero] at e1 e2
    rw [if_neg (by omega), List.getElem?_eq_none (by omega), List.getElem?_eq_none (by omega)]
  · by_cases hk : k < xs.length * sz
    · have hq : k / sz < xs.length := by rw [Nat.div_lt_iff_lt_mul h0]; exact hk
      have hr : k % sz < sz := Nat.mod_lt _ h0
      have hkk : k = (k / sz) * sz + k % sz := by rw [Nat.mul_comm]; exact (Nat.div_add_mod k sz).symm
      have hx : (xs.set i y)[k / sz]? = some ((xs.set i y)[k / sz]'(by simpa using hq)) := by simp [hq]
      have f1 := flat_at (xs.set i y) hw' (k / sz) _ hx (k % sz) hr
      rw [← hkk] at f1
      rw [f1]
      by_cases hqi : k / sz = i
      · have : (xs.set i y)[k / sz]'(by simpa using hq) = y := by simp [hqi]
        rw [this, if_pos (by rw [← hqi]; omega)]
        congr 1
        rw [← hqi]; omega
      · have : (xs.set i y)[k / sz]'(by simpa using hq) = xs[k / sz] := by rw [List.getElem_set_ne (Ne.symm hqi)]
        rw [this]
        have f2 := flat_at xs hw (k / sz) xs[k / sz] (by simp [hq]) (k % sz) hr
        rw [← hkk] at f2
        rw [← f2, if_neg]
        rintro ⟨a1, a2⟩
        apply hqi
        have : k / sz < i + 1 := by rw [Nat.div_lt_iff_lt_mul h0, Nat.add_mul]; omega
        have : i ≤ k / sz := by rw [Nat.le_div_iff_mul_le h0]; exact a1
        omega
    · have e1 := flat_length (xs.set i y) hw'
      have e2 := flat_length xs hw
      rw [List.length_set] at e1
      rw [List.getElem?_eq_none (by omega), if_neg, List.getElem?_eq_none (by omega)]
      rintro ⟨a1, a2⟩
      have : (i + 1) * sz ≤ xs.length * sz := Nat.mul_le_mul_right _ hi
      rw [Nat.add_mul] at this
      omega
end
end Go.Proofs.Kh
