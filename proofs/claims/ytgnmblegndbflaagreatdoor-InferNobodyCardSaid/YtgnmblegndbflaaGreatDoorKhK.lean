/- Append: the machine's does what the model's does. -/
import Derived.Test.YtgnmblegndbflaaGreatDoorKhJ
namespace Go.Proofs.Kh
set_option linter.all false
set_option linter.unusedVariables false
set_option linter.unusedSimpArgs false
open Go
section
variable {P : Program} {tm : Nat} {G : Gh} {st : St} {w : World} {x : AV}

/-- What is known of a slice type whose elements are appended. -/
structure AppT (P : Program) (t tx : TypeId) (sz bytes : Nat) where
  e : TypeId
  i : TypeInfo
  z : Value
  ht : P.underlying t = some (.slice e)
  hk : (∃ e', P.underlying tx = some (.slice e')) ∨ P.underlying tx = some .string
  hi : P.info? e = some i
  hz : i.zero = some z
  hsz : i.size = sz
  hby : i.bytes = bytes
  hzs : z.cells.size = sz
  hzo : ∀ (k : Nat) (v : Value), z.cells[k]? = some v → oneCell v = true

theorem drew_oneMore (w : World) (o : Go.Obj) : OneMore w (w.drew.alloc o) o := ⟨rfl, rfl, rfl, rfl⟩

/-- The row that a slice grows into. -/
theorem grown_row {t tx : TypeId} {sz bytes : Nat} (T : AppT P t tx sz bytes) {sCap : Nat} {olds news : List Value} {xs ys : List PD} (h1 : olds.length = xs.length * sz) (h2 : news.length = ys.length * sz) (h3 : (flat xs).length = xs.length * sz) (h4 : (flat ys).length = ys.length * sz)
    (o1 : ∀ u, u ∈ olds → u.oneCell' = true) (o2 : ∀ u, u ∈ news → u.oneCell' = true)
    (r1 : ∀ (k : Nat) (u : Value) (c : PD), olds[k]? = some u → (flat xs)[k]? = some c → RelP G.M u c) (r2 : ∀ (k : Nat) (u : Value) (c : PD), news[k]? = some u → (flat ys)[k]? = some c → RelP G.M u c) :
    let cur := (olds ++ news).toArray ++ Builtin.zeroCells T.z.cells (grownCap w (xs.length + ys.length) sCap T.e - (xs.length + ys.length))
    cur.size = grownCap w (xs.length + ys.length) sCap T.e * sz ∧ (∀ (k : Nat) (v : Value), cur[k]? = some v → oneCell v = true) ∧
    ∀ (k : Nat) (v : Value) (c : PD), cur[k]? = some v → (flat (xs ++ ys))[k]? = some c → RelP G.M v c := by
  intro cur
  have hge := grownCap_ge w (xs.length + ys.length) sCap T.e
  refine ⟨?_, fun k v hv => ?_, fun k v c hv hc => ?_⟩
  · have : cur.size = (olds ++ news).length + (grownCap w (xs.length + ys.length) sCap T.e - (xs.length + ys.length)) * T.z.cells.size := by
      simp [cur, size_zeroCells]
    rw [this, List.length_append, h1, h2, T.hzs, ← Nat.add_mul, ← Nat.add_mul]
    congr 1
    omega
  · simp only [cur, Array.getElem?_append] at hv
    split at hv
    · rw [oneCell_eq]
      have hm : v ∈ olds ++ news := by
        simp only [List.getElem?_toArray] at hv
        exact List.mem_of_getElem? hv
      rcases List.mem_append.1 hm with h | h
      · exact o1 v h
      · exact o2 v h
    · exact zeroCells_get _ _ T.hzo _ v hv
  · rw [flat_append] at hc
    by_cases hk : k < (flat xs).length
    · rw [List.getElem?_append_left hk] at hc
      refine r1 k v c ?_ hc
      simp only [cur, Array.getElem?_append, List.size_toArray, List.length_append] at hv
      rw [if_pos (by omega)] at hv
      simp only [List.getElem?_toArray] at hv
      rw [List.getElem?_append_left (by omega)] at hv
      exact hv
    · rw [List.getElem?_append_right (by omega)] at hc
      have hl2 : k - (flat xs).length < (flat ys).length := (List.getElem?_eq_some_iff.1 hc).1
      simp only [cur, Array.getElem?_append, List.size_toArray, List.length_append] at hv
      by_cases hk2 : k < olds.length + news.length
      · rw [if_pos hk2] at hv
        simp only [List.getElem?_toArray] at hv
        rw [List.getElem?_append_right (by omega)] at hv
        exact r2 _ v c (by rw [← hv]; congr 1; omega) hc
      · omega

/-- A new row, for a slice that had none to grow in. -/
theorem app_new {t tx ty : TypeId} {sz bytes : Nat} (T : AppT P t tx sz bytes) (inv : Inv G st w) (htm : tm ≤ st.length) {mt : Bool} {a : Option Addr} {sCap : Nat} {u : Value} {olds news : List Value} {xs ys : List PD}
    (hold : (Builtin.firstCells T.i.size xs.length (.slice a xs.length sCap)).run P w.drew = .ok olds.toArray w.drew) (hs : Src P T.i.size tx u ys.length news w) (hg : sCap < xs.length + ys.length)
    (hx : sized sz xs = true) (hy : sized sz ys = true) (h1 : olds.length = xs.length * sz) (o1 : ∀ u, u ∈ olds → u.oneCell' = true)
    (r1 : ∀ (k : Nat) (u : Value) (c : PD), olds[k]? = some u → (flat xs)[k]? = some c → RelP G.M u c) (r2 : ∀ (k : Nat) (u : Value) (c : PD), news[k]? = some u → (flat ys)[k]? = some c → RelP G.M u c)
    (hb : (xs.length + ys.length) * bytes ≤ 140737488355328) (h63 : xs.length + ys.length ≤ 9223372036854775807) :
    Yields P tm G st w (Builtin.append_ #[t, tx] ty #[.slice a xs.length sCap, u]) (.row st.length (xs.length + ys.length)) (st ++ [.row mt sz (xs ++ ys)]) := by
  have hl3 := flat_length xs (sized_spec hx).1
  have hl4 := flat_length ys (sized_spec hy).1
  have hrun := run_append_grow_src (P := P) w t tx ty T.e T.i T.z T.ht T.hi T.hz a xs.length sCap olds hold u ys.length news hs hg (by omega) (growslice_fits (by omega) (by rw [T.hby]; exact hb))
  obtain ⟨g1, g2, g3⟩ := grown_row (w := w) (G := G) T (sCap := sCap) h1 (by rw [hs.newsLen, T.hsz]) hl3 hl4 o1 hs.one r1 r2
  obtain ⟨G', i1, i2, i3⟩ := push_row (tm := tm) inv htm (drew_oneMore w _) (mt := mt) (xs := xs ++ ys) (fr := (0, 0)) (fun _ _ h => by omega) g1 (by rw [List.length_append]; exact grownCap_ge _ _ _ _)
    (grownCap_le_maxLen _ _ _ _ (by unfold maxLen; omega)) (fun z hz => by
      rcases List.mem_append.1 hz with h | h
      · exact (sized_spec hx).1 z h
      · exact (sized_spec hy).1 z h) (fun c hc => by
      rw [flat_append] at hc
      rcases List.mem_append.1 hc with h | h
      · exact (sized_spec hx).2 c h
      · exact (sized_spec hy).2 c h) g2 g3
  rw [List.length_append] at i3
  exact ⟨_, G', _, hrun, i3, i1, i2⟩

theorem Low.setRow {st : St} {m id : Nat} {mt : Bool} {sz : Nat} {xs : List PD} (h : Low st m) (hlt : id < st.length) : Low (st.set id (.row mt sz xs)) m := by
  intro j cs hj hjs c hcm
  by_cases hji : j = id
  · subst hji
    rw [List.getElem?_set_self hlt] at hjs
    injection hjs with hjs; cases hjs
  · rw [List.getElem?_set_ne (Ne.symm hji)] at hjs
    exact h j cs hj hjs c hcm

/-- A slice's own row grows, where it lies or elsewhere. -/
theorem app_row {t tx ty : TypeId} {sz bytes : Nat} (T : AppT P t tx sz bytes) (inv : Inv G st w) {mt : Bool} {id : Nat} {v u : Value} {news : List Value} {xs ys : List PD} (hst : st[id]? = some (.row mt sz xs)) (hv : RelV G st v (.row id xs.length))
    (hs : Src P T.i.size tx u ys.length news w) (hy : sized sz ys = true) (hn : ys ≠ [])
    (r2 : ∀ (k : Nat) (u : Value) (c : PD), news[k]? = some u → (flat ys)[k]? = some c → RelP G.M u c)
    (hb : (xs.length + ys.length) * bytes ≤ 140737488355328) (h63 : xs.length + ys.length ≤ 9223372036854775807) :
    Yields P tm G st w (Builtin.append_ #[t, tx] ty #[v, u]) (.row id (xs.length + ys.length)) (st.set id (.row mt sz (xs ++ ys))) := by
  have hlt : id < st.length := (List.getElem?_eq_some_iff.1 hst).1
  obtain ⟨q1, q2, q3⟩ := inv.objs id _ hst
  have hl3 := flat_length xs q1
  have hl4 := flat_length ys (sized_spec hy).1
  have hyl : 0 < ys.length := List.length_pos_iff.2 hn
  have hnl : news.length = ys.length * sz := by rw [hs.newsLen, T.hsz]
  have hw' : ∀ z, z ∈ xs ++ ys → z.cells.length = sz := fun z hz => by
    rcases List.mem_append.1 hz with h | h
    · exact q1 z h
    · exact (sized_spec hy).1 z h
  have hs' : ∀ c, c ∈ flat (xs ++ ys) → c.single = true := fun c hc => by
    rw [flat_append] at hc
    rcases List.mem_append.1 hc with h | h
    · exact q2 c h
    · exact (sized_spec hy).2 c h
  have hl5 := flat_length (xs ++ ys) hw'
  rw [List.length_append, Nat.add_mul] at hl5
  -- what a row of its own comes to, laid anew
  have grow : ∀ (a : Option Addr) (sCap : Nat) (olds : List Value), v = .slice a xs.length sCap → sCap < xs.length + ys.length → (Builtin.firstCells T.i.size xs.length (.slice a xs.length sCap)).run P w.drew = .ok olds.toArray w.drew →
      olds.length = xs.length * sz → (∀ u, u ∈ olds → u.oneCell' = true) → (∀ (k : Nat) (u : Value) (c : PD), olds[k]? = some u → (flat xs)[k]? = some c → RelP G.M u c) →
      Yields P tm G st w (Builtin.append_ #[t, tx] ty #[v, u]) (.row id (xs.length + ys.length)) (st.set id (.row mt sz (xs ++ ys))) := by
    intro a sCap olds hva hg hold h1 o1 r1
    subst hva
    have hrun := run_append_grow_src (P := P) w t tx ty T.e T.i T.z T.ht T.hi T.hz a xs.length sCap olds hold u ys.length news hs hg (by omega) (growslice_fits (by omega) (by rw [T.hby]; exact hb))
    obtain ⟨g1, g2, g3⟩ := grown_row (w := w) (G := G) T (sCap := sCap) h1 hnl hl3 hl4 o1 hs.one r1 r2
    have hge := grownCap_ge w (xs.length + ys.length) sCap T.e
    have hmx := grownCap_le_maxLen w (xs.length + ys.length) sCap T.e (by unfold maxLen; omega)
    generalize hcap : grownCap w (xs.length + ys.length) sCap T.e = cap at *
    generalize hcur : (olds ++ news).toArray ++ Builtin.zeroCells T.z.cells (cap - (xs.length + ys.length)) = cur at *
    have hm := drew_oneMore w (.cells cur T.e)
    have hle2 : (xs.length + ys.length) * sz ≤ cap * sz := Nat.mul_le_mul_right _ hge
    rw [Nat.add_mul] at hle2
    have hle : Mem.le G.M (if mt then G else G.hold w.heap.size (flat (xs ++ ys)).length cur).M := by
      cases mt with
      | true => exact Mem.le_refl _
      | false =>
        intro b o v hh
        have := inv.mem_lt hh
        simp only [Bool.false_eq_true, if_false, Gh.hold]
        rw [if_neg (by omega)]; exact hh
    obtain ⟨t1, t2⟩ := turn (tm := tm) inv hst (ob' := .row mt sz (xs ++ ys)) (w' := w.drew.alloc (.cells cur T.e))
      (G' := (if mt then G else G.hold w.heap.size (flat (xs ++ ys)).length cur).put id (some (w.heap.size, cap)))
      (fun j hj => by cases mt <;> simp [Gh.put, Gh.hold, hj]) hle (by rw [hm.size]; omega)
      (fun b hb _ => ⟨hm.old hb, fun o => by
        cases mt with
        | true => rfl
        | false => simp only [Gh.put, Bool.false_eq_true, if_false, Gh.hold]; rw [if_neg (by omega)]⟩)
      (.inl ⟨mt, xs ++ ys, by rw [List.getElem?_set_self hlt], by simp, fun e => by rw [List.length_append] at e; omega⟩)
      (fun p hp => by simp [Gh.put] at hp; subst hp; exact ⟨by rw [hm.size]; simp, .inr (Nat.le_refl _)⟩)
      (fun b o v hh => by
        cases mt with
        | true => rw [cell_same (hm.old (inv.mem_lt hh))]; exact inv.mem b o v hh
        | false =>
          simp only [Gh.put, Bool.false_eq_true, if_false, Gh.hold] at hh
          split at hh
          · rename_i hbo
            rw [hbo.1, cell_of_row _ _ o cur T.e _ hm.new]; exact hh
          · rw [cell_same (hm.old (inv.mem_lt hh))]; exact inv.mem b o v hh)
      (fun m hm hlow => hlow.setRow hlt) rfl rfl rfl
      (fun ext => ⟨hw', hs', .inr ⟨w.heap.size, cap, cur, T.e, (0, 0), by simp [Gh.put], hm.new, fun _ _ h => by omega, g1, by rw [List.length_append]; exact hge, hmx, g2, fun k v c hv hc => (g3 k v c hv hc).mono hle, by
        cases mt with
        | true => exact .inl ⟨rfl, fun o => inv.mem_none (Nat.le_refl _) o⟩
        | false =>
          refine .inr ⟨rfl, fun o ho => by simp [Gh.put, Gh.hold, ho], fun o ho => ?_⟩
          simp only [Gh.put, Bool.false_eq_true, if_false, Gh.hold]
          rw [if_neg (by omega)]; exact inv.mem_none (Nat.le_refl _) o⟩⟩)
    refine ⟨_, _, _, hrun, .row _ _ _ (by simpa using hlt) rfl fun mt' sz' xs' hh => ?_, t1, t2⟩
    rw [List.getElem?_set_self hlt] at hh
    injection hh with hh; injection hh with a1 a2 a3; subst a3
    exact ⟨by simp, fun _ => by simp [Hdr, Gh.put]⟩
  rcases slAt_row inv hv hst rfl with ⟨e1, e2, e3⟩ | ⟨s, s0, s1⟩
  · subst e2
    refine grow none 0 [] e1 (by simpa using hyl) (run_firstCells_none w.drew _ _ _ _) (by simp) (fun _ h => by cases h) (fun k u c h _ => by simp at h)
  · by_cases hroom : xs.length + ys.length ≤ s.cap
    · rcases q3 with ⟨q3, _⟩ | ⟨g, cap, cur, A, fr, e1, e2, ef, e3, e4, e5, e6, e7, e8⟩
      · rw [s1] at q3; cases q3
      · rw [s1] at e1; injection e1 with e1; injection e1 with e1 e1'
        have hvv := s.hv
        rw [s0, e1, e1'] at hvv
        rw [e1'] at hroom
        have hle2 : (xs.length + ys.length) * sz ≤ cap * sz := Nat.mul_le_mul_right _ hroom
        rw [Nat.add_mul] at hle2
        rw [hvv]
        have hfit : xs.length * T.i.size + news.length ≤ cur.size := by rw [T.hsz]; omega
        have hrun := run_app_room (P := P) (ty := ty) T.ht T.hi hs hroom e2 ef hfit
        rw [T.hsz] at hrun
        have hps : G.ps id = some (g, cap) := by rw [s1, e1, e1']
        have hgl : g < w.heap.size := inv.lt id _ hlt hps
        have hgetn : ∀ k, (cur.toList.take (xs.length * sz) ++ news ++ cur.toList.drop (xs.length * sz + news.length)).toArray[k]? = if k < xs.length * sz then cur[k]? else if k < xs.length * sz + news.length then news[k - xs.length * sz]? else cur[k]? := by
          intro k
          rw [List.getElem?_toArray, lay_get cur.toList (xs.length * sz) news (by simp; omega)]
          simp only [Array.getElem?_toList]
        generalize hnew : (cur.toList.take (xs.length * sz) ++ news ++ cur.toList.drop (xs.length * sz + news.length)).toArray = new at *
        have hnsz : new.size = cur.size := by
          rw [← hnew, List.size_toArray, lay_length cur.toList (xs.length * sz) news (by simp; omega)]; simp
        have hle : Mem.le G.M (if mt then G else G.hold g (flat (xs ++ ys)).length new).M := by
          cases mt with
          | true => exact Mem.le_refl _
          | false =>
            intro b o v' hh
            simp only [Bool.false_eq_true, if_false, Gh.hold]
            split
            · rename_i hbo
              rcases e8 with ⟨a, _⟩ | ⟨_, a2, a3⟩
              · cases a
              · rw [hbo.1] at hh
                by_cases ho : o < (flat xs).length
                · rw [hgetn, if_pos (by omega), ← a2 o ho]; exact hh
                · rw [a3 o (by omega)] at hh; cases hh
            · exact hh
        obtain ⟨t1, t2⟩ := turn (tm := tm) inv hst (ob' := .row mt sz (xs ++ ys)) (w' := w.setRow g new) (G' := if mt then G else G.hold g (flat (xs ++ ys)).length new)
          (fun j hj => by cases mt <;> rfl) hle (by simp)
          (fun b hb hne => ⟨setRow_other w g b _ (fun e => hne cap (by rw [e]; exact hps)), fun o => by
            have : b ≠ g := fun e => hne cap (by rw [e]; exact hps)
            cases mt with
            | true => rfl
            | false => simp [Gh.hold, this]⟩)
          (.inl ⟨mt, xs ++ ys, by rw [List.getElem?_set_self hlt], by simp, fun e => by rw [List.length_append] at e; omega⟩)
          (fun p hp => by
            have hp' : G.ps id = some p := by cases mt <;> exact hp
            exact ⟨by simpa using inv.lt id p hlt hp', .inl ⟨p.2, hp'⟩⟩)
          (fun b o v' hh => by
            by_cases hbg : b = g
            · subst hbg
              rw [cell_setRow_same w b o cur new A fr e2]
              cases mt with
              | true =>
                rcases e8 with ⟨_, a⟩ | ⟨a, _⟩
                · simp only [if_true] at hh; rw [a] at hh; cases hh
                · cases a
              | false =>
                simp only [Bool.false_eq_true, if_false, Gh.hold] at hh
                split at hh
                · exact hh
                · rename_i hno
                  rcases e8 with ⟨a, _⟩ | ⟨_, a2, a3⟩
                  · cases a
                  · have : (flat (xs ++ ys)).length ≤ o := by
                      rcases Nat.lt_or_ge o (flat (xs ++ ys)).length with h | h
                      · exact (hno (by constructor; trivial; exact h)).elim
                      · exact h
                    rw [a3 o (by omega)] at hh; cases hh
            · rw [cell_setRow_other w g _ ⟨b, o, none⟩ hbg]
              refine inv.mem b o v' ?_
              cases mt with
              | true => exact hh
              | false =>
                simp only [Bool.false_eq_true, if_false, Gh.hold] at hh
                rw [if_neg (fun h => hbg h.1)] at hh; exact hh)
          (fun m hm hlow => hlow.setRow hlt) rfl rfl rfl
          (fun ext => ⟨hw', hs', .inr ⟨g, cap, new, A, fr, by cases mt <;> exact hps, setRow_heap w g cur new A fr e2, by rw [hnsz]; exact ef, by rw [hnsz]; exact e3, by rw [List.length_append]; exact hroom, e5,
            fun k v' hv' => by
              rw [hgetn] at hv'
              split at hv'
              · exact e6 k v' hv'
              · split at hv'
                · rw [oneCell_eq]; exact hs.one _ (List.mem_of_getElem? hv')
                · exact e6 k v' hv',
            fun k v' c hv' hc => by
              rw [hgetn] at hv'
              rw [flat_append] at hc
              refine RelP.mono hle ?_
              by_cases hk : k < (flat xs).length
              · rw [List.getElem?_append_left hk] at hc
                rw [if_pos (by omega)] at hv'
                exact e7 k v' c hv' hc
              · rw [List.getElem?_append_right (by omega)] at hc
                have hl2 : k - (flat xs).length < (flat ys).length := (List.getElem?_eq_some_iff.1 hc).1
                rw [if_neg (by omega), if_pos (by omega)] at hv'
                exact r2 _ v' c (by rw [← hv']; congr 1; omega) hc, by
            cases mt with
            | true =>
              rcases e8 with ⟨_, a⟩ | ⟨a, _⟩
              · exact .inl ⟨rfl, a⟩
              · cases a
            | false =>
              rcases e8 with ⟨a, _⟩ | ⟨_, a2, a3⟩
              · cases a
              · refine .inr ⟨rfl, fun o ho => by simp [Gh.hold, ho], fun o ho => ?_⟩
                simp only [Bool.false_eq_true, if_false, Gh.hold]
                rw [if_neg (by omega)]; exact a3 o (by omega)⟩⟩)
        refine ⟨_, _, _, hrun, .row _ _ _ (by simpa using hlt) rfl fun mt' sz' xs' hh => ?_, t1, t2⟩
        rw [List.getElem?_set_self hlt] at hh
        injection hh with hh; injection hh with a1 a2 a3; subst a3
        exact ⟨by simp, fun _ => by
          have : (if mt then G else G.hold g (flat (xs ++ ys)).length new).ps id = some (g, cap) := by cases mt <;> exact hps
          simp [Hdr, this]⟩
    · obtain ⟨olds, n1, n2, n3, n4⟩ := s.cells
      refine grow _ _ olds s.hv (by omega) (run_firstCells_some w.drew _ _ _ _ _ olds (by rw [T.hsz]; omega) (by simpa using n2)) (by omega) n3 n4

theorem app_sound {t tx ty : TypeId} {sz bytes : Nat} (T : AppT P t tx sz bytes) (inv : Inv G st w) (htm : tm ≤ st.length) {mt : Bool} {y : AV} {v u : Value} {r : AV} {st' : St} (hx : RelV G st v x) (hy : RelV G st u y)
    (h : doApp sz bytes mt st x y = some (.ret r, st')) : Yields P tm G st w (Builtin.append_ #[t, tx] ty #[v, u]) r st' := by
  unfold doApp at h
  split at h
  · rename_i xs ys hex hty
    obtain ⟨a, cap, hv, hcap, hmx⟩ := slAt_len inv hx hex
    split at h
    · rename_i hn
      subst hn
      simp only [val, Option.some.injEq, Prod.mk.injEq, ARes.ret.injEq] at h
      obtain ⟨rfl, rfl⟩ := h
      refine .same ?_ hx inv
      subst hv
      refine run_app_none T.hk T.ht T.hi hcap ?_ ?_
      · by_cases hstr : ∃ s, y = .pd (.str s)
        · obtain ⟨s, rfl⟩ := hstr
          simp only [tail, Option.some.injEq, List.map_eq_nil_iff] at hty
          subst hty
          rw [hy.pd_inv.str_inv]; rfl
        · have he : elems st y = some [] := by
            cases y with
            | pd z =>
              cases z with
              | str s => exact (hstr ⟨s, rfl⟩).elim
              | _ => exact hty
            | _ => exact hty
          obtain ⟨b, c, rfl, _⟩ := slAt_len inv hy he
          rfl
      · by_cases hstr : ∃ s, y = .pd (.str s)
        · obtain ⟨s, rfl⟩ := hstr
          simp only [tail, Option.some.injEq, List.map_eq_nil_iff] at hty
          subst hty
          rw [hy.pd_inv.str_inv]; simp [Builtin.firstCells]
        · have he : elems st y = some [] := by
            cases y with
            | pd z =>
              cases z with
              | str s => exact (hstr ⟨s, rfl⟩).elim
              | _ => exact hty
            | _ => exact hty
          obtain ⟨b, c, rfl, _⟩ := slAt_len inv hy he
          cases b with
          | none => rfl
          | some b => simp [Builtin.firstCells, loadCells, loadCellsFrom]
    · rename_i hn
      split at h
      · rename_i hok
        simp only [Bool.and_eq_true, decide_eq_true_eq] at hok
        obtain ⟨⟨hys, hb⟩, h63⟩ := hok
        obtain ⟨news, hs, r2⟩ := src_of inv T.hk hy hty hys hn
        rw [← T.hsz] at hs
        have hyl : 0 < ys.length := List.length_pos_iff.2 hn
        split at h
        · -- nil
          simp only [elems, Option.some.injEq] at hex
          subst hex
          simp only [val, Option.some.injEq, Prod.mk.injEq, ARes.ret.injEq] at h
          obtain ⟨rfl, rfl⟩ := h
          cases hx
          have := app_new (P := P) (tm := tm) (ty := ty) T inv htm (mt := mt) (a := none) (sCap := 0) (u := u) (olds := []) (xs := []) (ys := ys) (news := news) (run_firstCells_none w.drew _ _ _ _) hs (by simpa using hyl) rfl hys (by simp)
            (fun _ h => by cases h) (fun k u c h _ => by simp at h) r2 hb h63
          simpa using this
        · -- a slice of its own
          simp only [elems, Option.some.injEq] at hex
          subst hex
          split at h
          · rename_i hxs
            simp only [val, Option.some.injEq, Prod.mk.injEq, ARes.ret.injEq] at h
            obtain ⟨rfl, rfl⟩ := h
            cases hx with
            | tight a' n _ hp =>
              injection hv with b1 b2 b3
              subst b2
              subst b1
              subst b3
              rcases slAt_pd inv hp with ⟨e1, rfl⟩ | ⟨⟨s⟩⟩
              · injection e1 with e1 e2 e3
                subst e1
                exact app_new (P := P) (tm := tm) (ty := ty) T inv htm (mt := mt) (olds := []) (xs := []) (run_firstCells_none w.drew _ _ _ _) hs (by simpa using hyl) hxs hys (by simp)
                  (fun _ h => by cases h) (fun k u c h _ => by simp at h) r2 hb h63
              · obtain ⟨olds, n1, n2, n3, n4⟩ := s.cells
                have hfl := flat_length _ (sized_spec hxs).1
                have hvv := s.hv
                injection hvv with c1 c2 c3
                rw [c1]
                exact app_new (P := P) (tm := tm) (ty := ty) T inv htm (mt := mt) (run_firstCells_some w.drew _ _ _ _ _ olds (by rw [T.hsz]; omega) (by simpa using n2)) hs (by omega) hxs hys (by omega) n3 n4 r2 hb h63
          · cases h
        · rename_i id n
          simp only [elems] at hex
          split at hex
          · rename_i m' sz' zs hst
            split at hex
            · rename_i hl
              injection hex with hex; subst hex
              rw [hst] at h
              simp only at h
              split at h
              · rename_i hsz
                subst hsz
                simp only [val, Option.some.injEq, Prod.mk.injEq, ARes.ret.injEq] at h
                obtain ⟨rfl, rfl⟩ := h
                subst hl
                exact app_row T inv hst hx hs hys hn r2 hb h63
              · cases h
            · cases hex
          · cases hex
        · cases h
      · cases h
  · cases h
end
end Go.Proofs.Kh
