/- The machine's operations do what the model's do: places, slices, texts, what is built. -/
import Derived.Test.YtgnmblegndbflaaGreatDoorKhN
namespace Go.Proofs.Kh
set_option linter.all false
set_option linter.unusedVariables false
set_option linter.unusedSimpArgs false
open Go
section
variable {P : Program} {tm : Nat} {G : Gh} {st : St} {w : World} {x : AV}

theorem sizeT_some {t : TypeId} {n : Nat} (h : sizeT P t = some n) : ∃ i, P.info? t = some i ∧ i.size = n := by
  unfold sizeT at h
  simp only [Option.map_eq_some_iff] at h
  exact h

theorem run_sizeT {t : TypeId} {n : Nat} (h : sizeT P t = some n) : (sizeOf t).run P w = .ok n w := by
  obtain ⟨i, hi, rfl⟩ := sizeT_some h
  exact run_info hi

theorem zeroOf_some {t : TypeId} {zs : List PD} (h : zeroOf P t = some zs) : ∃ i z, P.info? t = some i ∧ i.zero = some z ∧ pdVs z.cells.toList = some zs ∧ zs.length = i.size := by
  unfold zeroOf at h
  split at h
  · rename_i i hi
    split at h
    · rename_i z hz
      split at h
      · rename_i ps hps
        split at h
        · rename_i hl
          injection h with h; subst h
          exact ⟨i, z, hi, hz, hps, hl⟩
        · cases h
      · cases h
    · cases h
  · cases h

theorem run_zero {t : TypeId} {i : TypeInfo} {z : Value} (hi : P.info? t = some i) (hz : i.zero = some z) : (zeroValue t).run P w = .ok z w := by
  simp [zeroValue, typeInfo, hi, hz]

theorem pdVs_one {M : Mem} {vs : List Value} {ps : List PD} (h : pdVs vs = some ps) : ∀ (k : Nat) (v : Value), vs[k]? = some v → oneCell v = true := by
  intro k v hv
  obtain ⟨e1, e2, e3⟩ := pdVs_rel M vs ps h
  have hk : k < vs.length := (List.getElem?_eq_some_iff.1 hv).1
  have hk' : k < ps.length := by omega
  exact (e3 k v ps[k] hv (by simp [hk'])).oneCell (e2 _ (by simp))

theorem appT_of {t tx e : TypeId} {d : TypeDesc} {i : TypeInfo} {zs : List PD} (ht : P.underlying t = some (.slice e)) (hx : P.underlying tx = some d) (hd : appKind d = true) (hi : P.info? e = some i) (hz : zeroOf P e = some zs) :
    Nonempty (AppT P t tx i.size i.bytes) := by
  obtain ⟨i', z, h1, h2, h3, h4⟩ := zeroOf_some hz
  rw [hi] at h1; injection h1 with h1; subst h1
  obtain ⟨e1, e2, e3⟩ := pdVs_rel (fun _ _ => none) _ _ h3
  refine ⟨⟨e, i, z, ht, ?_, hi, h2, rfl, rfl, by simp at e1; omega, fun k v hv => pdVs_one (M := fun _ _ => none) h3 k v (by simpa using hv)⟩⟩
  cases d <;> simp [appKind] at hd
  · exact .inr hx
  · exact .inl ⟨_, hx⟩

theorem pdVs_at : ∀ {vs : List Value} {ps : List PD}, pdVs vs = some ps → ∀ (k : Nat) (p : PD), ps[k]? = some p → ∃ v, vs[k]? = some v ∧ pdV v = some p
  | [], ps, h, k, p, hp => by simp only [pdVs, Option.some.injEq] at h; subst h; simp at hp
  | v :: r, ps, h, k, p, hp => by
    simp only [pdVs] at h
    split at h
    · rename_i x xs hx hxs
      injection h with h; subst h
      cases k with
      | zero => simp at hp; subst hp; exact ⟨v, rfl, hx⟩
      | succ k => simp at hp; obtain ⟨u, h1, h2⟩ := pdVs_at hxs k p hp; exact ⟨u, by simpa using h1, h2⟩
    · cases h

theorem pdV_nil {v : Value} (h : pdV v = some (.sl [])) : v = .slice none 0 0 := by
  unfold pdV at h
  split at h <;> first | rfl | (simp at h)

theorem Low.len {st : St} {w : World} {G : Gh} (inv : Inv G st w) : Low st st.length := by
  intro i cells hi hs c hc
  exact (inv.objs i _ hs).1 c hc

/-! ### What is built -/
theorem alloc_sound {t : TypeId} {i : TypeInfo} {z : Value} {zs : List PD} (inv : Inv G st w) (htm : tm ≤ st.length) (hi : P.info? t = some i) (hz : i.zero = some z) (hzs : pdVs z.cells.toList = some zs) {cells : List AV}
    (hc : cells.length = zs.length) (hr : ∀ (k : Nat) (v : Value) (c : AV), z.cells[k]? = some v → cells[k]? = some c → RelV G st v c) :
    Yields P tm G st w (Instr.alloc t true (.tuple #[])) (.ptr st.length 0) (st ++ [.var cells]) := by
  obtain ⟨e1, e2, e3⟩ := pdVs_rel G.M _ _ hzs
  have e1' : zs.length = z.cells.size := by simpa using e1
  obtain ⟨G', i1, i2, i3⟩ := push_var (tm := tm) inv htm (alloc_oneMore w (.cells z.cells t)) (cells := cells) (by omega) (fun k v hv => pdVs_one (M := G.M) hzs k v (by simpa using hv)) hr
  refine ⟨_, G', _, ?_, i3, i1, i2⟩
  simp only [Instr.alloc, Sem.run_bind, run_zero hi hz, Result.andThen_ok, newVar, run_newRow, Sem.run_pure]

theorem box_sound {t : TypeId} {v : Value} {cs : List AV} (inv : Inv G st w) (htm : tm ≤ st.length) (hx : RelV G st v x) (hc : cellsOf x = some cs) :
    Yields P tm G st w (Instr.box t v) (.ptr st.length 0) (st ++ [.var cs]) := by
  obtain ⟨c1, c2, c3⟩ := cellsOf_rel hx hc
  obtain ⟨G', i1, i2, i3⟩ := push_var (tm := tm) inv htm (alloc_oneMore w (.cells v.cells t)) (cells := cs) c1 c2 c3
  refine ⟨_, G', _, ?_, i3, i1, i2⟩
  simp only [Instr.box, newVar, Sem.run_bind, run_newRow, Result.andThen_ok, Sem.run_pure]

/-- Rows for slices that are nil, ahead of the variable that has them. -/
theorem adopt_ok {vs : List Value} {zs : List PD} (hvs : pdVs vs = some zs) : ∀ (ad : List (Nat × Nat × Bool)) {G : Gh} {st : St} (cells : List AV), Inv G st w → tm ≤ st.length → goodAd zs ad = true → cells.length = zs.length →
    (∀ (k : Nat) (v : Value) (c : AV), vs[k]? = some v → cells[k]? = some c → RelV G st v c) →
    ∃ G', Inv G' (adoptAll ad st cells).1 w ∧ Ext tm G st w G' (adoptAll ad st cells).1 w ∧ (adoptAll ad st cells).2.length = zs.length ∧
      ∀ (k : Nat) (v : Value) (c : AV), vs[k]? = some v → (adoptAll ad st cells).2[k]? = some c → RelV G' (adoptAll ad st cells).1 v c
  | [], G, st, cells, inv, htm, hg, hl, hr => ⟨G, inv, Ext.refl _ _ _ _, hl, hr⟩
  | (off, sz, mt) :: r, G, st, cells, inv, htm, hg, hl, hr => by
    simp only [goodAd, Bool.and_eq_true] at hg
    obtain ⟨hg1, hg2⟩ := hg
    have hz : zs[off]? = some (.sl []) := by
      split at hg1
      · assumption
      · cases hg1
    obtain ⟨G1, i1, x1, r1⟩ := push_empty (tm := tm) inv htm mt sz
    obtain ⟨G2, i2, x2, l2, r2⟩ := adopt_ok hvs r (G := G1) (st := st ++ [.row mt sz []]) (cells.set off (.row st.length 0)) i1 (by simp; omega) hg2 (by simpa using hl) (fun k v c hv hc => by
      by_cases hk : k = off
      · subst hk
        obtain ⟨u, hu, hp⟩ := pdVs_at hvs k _ hz
        rw [hv] at hu; injection hu with hu; subst hu
        rw [pdV_nil hp]
        have hkl : k < cells.length := by have := (List.getElem?_eq_some_iff.1 hz).1; omega
        rw [List.getElem?_set_self hkl] at hc; injection hc with hc; subst hc
        exact r1
      · rw [List.getElem?_set_ne (Ne.symm hk)] at hc
        exact (hr k v c hv hc).ext x1)
    exact ⟨G2, i2, x1.trans x2, l2, r2⟩

/-- One value at a time is laid into a struct, or an array. -/
theorem fill_rel {place : Nat → Option (Nat × Nat)} : ∀ (ps : List (Nat × Value)) (qs : List (Nat × Nat × AV)) (cells : Array Value) (cs : List AV) (r : List AV), ps.length = qs.length →
    (∀ (k : Nat) (i : Nat) (v : Value) (off n : Nat) (y : AV), ps[k]? = some (i, v) → qs[k]? = some (off, n, y) → place i = some (off, n) ∧ RelV G st v y) →
    cells.size = cs.length → (∀ (k : Nat) (v : Value), cells[k]? = some v → oneCell v = true) → (∀ (k : Nat) (v : Value) (c : AV), cells[k]? = some v → cs[k]? = some c → RelV G st v c) → fillA cs qs = some r →
    ∃ cells', Instr.fill place cells ps = some cells' ∧ RelV G st (.agg cells') (.agg r)
  | [], [], cells, cs, r, _, _, h1, h2, h3, h => by
    simp only [fillA, Option.some.injEq] at h; subst h
    exact ⟨cells, rfl, .agg _ _ h1 h2 h3⟩
  | [], _ :: _, _, _, _, h, _, _, _, _, _ => by simp at h
  | _ :: _, [], _, _, _, h, _, _, _, _, _ => by simp at h
  | (i, v) :: ps, (off, n, y) :: qs, cells, cs, r, hl, hp, h1, h2, h3, h => by
    obtain ⟨p1, p2⟩ := hp 0 i v off n y rfl rfl
    simp only [fillA] at h
    split at h
    · rename_i new hnew
      split at h
      · rename_i hn
        obtain ⟨c1, c2, c3⟩ := cellsOf_rel p2 hnew
        simp only [Instr.fill, p1]
        rw [if_neg (by simp; omega)]
        have hfold : ∀ (l : List Value) (j : Nat) (acc : Array Value), (l.zipIdx j).foldl (fun cs (x : Value × Nat) => cs.setIfInBounds (off + x.2) x.1) acc =
            acc.mapIdx (fun k u => if off + j ≤ k ∧ k < off + j + l.length then l.getD (k - (off + j)) u else u) := by
          intro l
          induction l with
          | nil =>
            intro j acc
            simp only [List.zipIdx_nil, List.foldl_nil]
            apply Array.ext
            · simp
            · intro k _ _; simp
          | cons u l ih =>
            intro j acc
            simp only [List.zipIdx_cons, List.foldl_cons]
            rw [ih]
            apply Array.ext
            · simp
            · intro k hk1 hk2
              simp only [Array.getElem_mapIdx, List.length_cons]
              by_cases hk : off + j = k
              · subst hk
                simp
                intros
                omega
              · by_cases h5 : off + (j + 1) ≤ k ∧ k < off + (j + 1) + l.length
                · rw [if_pos h5, if_pos (by omega)]
                  rw [show k - (off + j) = (k - (off + (j + 1))) + 1 by omega]
                  have hlt : k - (off + (j + 1)) < l.length := by omega
                  simp [hlt]
                · rw [if_neg h5, if_neg (by omega)]; exact Array.getElem_setIfInBounds_ne _ hk
        have hz : (v.cells.zipIdx.foldl (fun cs (x : Value × Nat) => match x with | (c, j) => cs.setIfInBounds (off + j) c) cells) = cells.mapIdx (fun k u => if off ≤ k ∧ k < off + v.cells.size then v.cells.getD (k - off) u else u) := by
          have := hfold v.cells.toList 0 cells
          simp only [Nat.add_zero, Array.length_toList] at this
          rw [← Array.foldl_toList, Array.toList_zipIdx]
          have e : (fun (cs : Array Value) (x : Value × Nat) => match x with | (c, j) => cs.setIfInBounds (off + j) c) = fun cs x => cs.setIfInBounds (off + x.2) x.1 := rfl
          rw [e, this]
          apply Array.ext
          · simp
          · intro k _ _
            simp only [Array.getElem_mapIdx, Array.getD_eq_getD_getElem?, List.getD_eq_getElem?_getD, Array.getElem?_toList]
        rw [hz]
        obtain ⟨n1, n2⟩ := hn
        refine fill_rel ps qs _ (lay cs off new) r (by simpa using hl) (fun k i' v' off' n' y' a b => hp (k + 1) i' v' off' n' y' (by simpa using a) (by simpa using b)) ?_ ?_ ?_ h
        · unfold lay; rw [lay_length cs off new (by omega)]; simpa using h1
        · intro k u hu
          simp only [Array.getElem?_mapIdx, Option.map_eq_some_iff] at hu
          obtain ⟨u0, hu0, rfl⟩ := hu
          split
          · rename_i hk
            have hlt : k - off < v.cells.size := by omega
            exact c2 (k - off) _ (by simp [hlt])
          · exact h2 k u0 hu0
        · intro k u c hu hc
          simp only [Array.getElem?_mapIdx, Option.map_eq_some_iff] at hu
          obtain ⟨u0, hu0, rfl⟩ := hu
          unfold lay at hc
          rw [lay_get cs off new (by omega)] at hc
          split
          · rename_i hk
            have hlt : k - off < v.cells.size := by omega
            rw [if_neg (by omega), if_pos (by omega)] at hc
            exact c3 (k - off) _ c (by simp [hlt]) hc
          · rename_i hk
            have : (if k < off then cs[k]? else if k < off + new.length then new[k - off]? else cs[k]?) = cs[k]? := by
              by_cases h5 : k < off
              · rw [if_pos h5]
              · rw [if_neg h5, if_neg (by omega)]
            rw [this] at hc
            exact h3 k u0 c hu0 hc
      · cases h
    · cases h
end
end Go.Proofs.Kh
