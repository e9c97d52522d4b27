/- Functions: each is entered, carried out, left; what any call comes to with as many calls as it takes. -/
import Derived.Test.YtgnmblegndbflaaGreatDoorKhZI
namespace Go.Proofs.Kh
set_option linter.all false
set_option linter.unusedVariables false
set_option linter.unusedSimpArgs false
open Go

structure AFn where
  np : Nat
  res : List RV
  body : ACode
  md : Nat

def params : Nat → List AV → Env
  | _, [] => []
  | k, x :: r => (k, x) :: params (k + 1) r

noncomputable def AFn.enter (call : CallF) (af : AFn) (xs : List AV) (st : St) : Option Out :=
  if xs.length = af.np then
    match af.body.run call [(st.length, params 0 xs)] st with
    | some (.norm, ly, st') => match evRes ly st' af.res with
      | some ys => leave af.md st.length st' ys
      | none => none
    | some (.ret, ly, st') => match evRes ly st' af.res with
      | some ys => leave af.md st.length st' ys
      | none => none
    | some (.pan p, _, st') => some (.pan p, st'.take st.length)
    | _ => none
  else none

theorem params_get : ∀ (xs : List AV) (k s : Nat), Env.get (params k xs) s = if k ≤ s then xs[s - k]? else none
  | [], k, s => by simp [params, Env.get]
  | x :: r, k, s => by
    simp only [params, Env.get, params_get r (k + 1) s]
    by_cases h1 : k = s
    · subst h1; simp
    · by_cases h2 : k ≤ s
      · have h3 : k + 1 ≤ s := by omega
        rw [if_neg h1, if_pos h3, if_pos h2, show s - k = (s - (k + 1)) + 1 by omega]
        simp
      · rw [if_neg h1, if_neg (by omega), if_neg h2]

/-- What the table says of the program's function. -/
def Fits (P : Program) (f : FuncId) (af : AFn) : Prop :=
  ∃ fn c h rs, P.funcs[f]? = some fn ∧ fn.body = some c ∧ normCode P h fn.ntmps c = some af.body ∧ fn.results = rs.toArray ∧ rs.length ≤ 4 ∧ normRes P rs = some af.res ∧ af.np ≤ fn.ntmps

section
variable {P : Program} {G : Gh} {st : St} {w : World} {a : Act} {ly : Ly} {call : CallF}

theorem res_rel (inv : Inv G st w) (he : EnvRel G st a ly) : ∀ (rs : List ResultVar) (rvs : List RV) (xs : List AV), normRes P rs = some rvs → evRes ly st rvs = some xs →
    ∃ vs : List Value, rs.length = vs.length ∧ vs.length = xs.length ∧ (∀ (k : Nat) r v, rs[k]? = some r → vs[k]? = some v → (rvRun a.tmps r).run P w = .ok v w) ∧ ∀ (k : Nat) v x, vs[k]? = some v → xs[k]? = some x → RelV G st v x
  | [], rvs, xs, hn, hx => by
    simp only [normRes, Option.some.injEq] at hn; subst hn
    simp only [evRes, Option.some.injEq] at hx; subst hx
    exact ⟨[], rfl, rfl, by simp, by simp⟩
  | r :: rs, rvs, xs, hn, hx => by
    simp only [normRes] at hn
    split at hn
    · rename_i y ys h1 h2
      injection hn with hn; subst hn
      simp only [evRes] at hx
      split at hx
      · rename_i z zs h3 h4
        injection hx with hx; subst hx
        obtain ⟨v, e1, e2⟩ := rv_rel inv he h1 h3
        obtain ⟨vs, g1, g2, g3, g4⟩ := res_rel inv he rs ys zs h2 h4
        refine ⟨v :: vs, by simp [g1], by simp [g2], fun k r' v' hr hv => ?_, fun k v' x' hv hx => ?_⟩
        · cases k with
          | zero => simp at hr hv; subst hr; subst hv; exact e1
          | succ k => simp at hr hv; exact g3 k r' v' hr hv
        · cases k with
          | zero => simp at hv hx; subst hv; subst hx; exact e2
          | succ k => simp at hv hx; exact g4 k v' x' hv hx
      · cases hx
    · cases hn

theorem oneOf_rel {vs : List Value} {xs : List AV} (hl : vs.length = xs.length) (h : ∀ (k : Nat) v x, vs[k]? = some v → xs[k]? = some x → RelV G st v x) : RelV G st (oneV vs) (oneOf xs) := by
  match vs, xs, hl with
  | [], [], _ => exact .tup _ _ rfl fun k v c hv hc => by simp at hc
  | [v], [x], _ => exact h 0 v x rfl rfl
  | v :: v2 :: vs, x :: x2 :: xs, hl =>
    refine .tup _ _ (by simpa using hl) fun k u c hu hc => h k u c (by simpa using hu) hc

theorem rowsAt_spec : ∀ (ids : List Nat) (l : St), rowsAt st ids = some l → l.length = ids.length ∧ ∀ (k id : Nat), ids[k]? = some id → ∃ mt sz xs, st[id]? = some (.row mt sz xs) ∧ l[k]? = some (.row mt sz xs)
  | [], l, h => by simp only [rowsAt, Option.some.injEq] at h; subst h; simp
  | i :: r, l, h => by
    simp only [rowsAt] at h
    split at h
    · rename_i mt sz xs l' h1 h2
      injection h with h; subst h
      obtain ⟨e1, e2⟩ := rowsAt_spec r l' h2
      refine ⟨by simp [e1], fun k id hk => ?_⟩
      cases k with
      | zero => simp at hk; subst hk; exact ⟨mt, sz, xs, h1, rfl⟩
      | succ k => simp at hk; simpa using e2 k id hk
    · cases h

/-- The machine's memory, with rows moved to the end of what was there. -/
def ownG (G : Gh) (base : Nat) (ids : List Nat) : Gh := ⟨G.M, fun i => if i < base then G.ps i else (ids[i - base]?).bind G.ps⟩

theorem own_get {base : Nat} (hb : base ≤ st.length) (l : St) {i : Nat} (hi : i < base) : (st.take base ++ l)[i]? = (st.take base)[i]? :=
  List.getElem?_append_left (by rw [List.length_take]; omega)

theorem own_get2 {base : Nat} (hb : base ≤ st.length) (l : St) (k : Nat) : (st.take base ++ l)[base + k]? = l[k]? := by
  rw [List.getElem?_append_right (by rw [List.length_take]; omega), List.length_take]
  congr 1; omega

theorem RelV.own {base : Nat} {ids : List Nat} {l : St} (hb : base ≤ st.length) {v : Value} {x : AV} (h : RelV G (st.take base) v x) : RelV (ownG G base ids) (st.take base ++ l) v x := by
  have hl : (st.take base).length = base := by rw [List.length_take]; omega
  have hle : (st.take base).length ≤ (st.take base ++ l).length := by simp
  induction h with
  | pd v x hx => exact .pd v x hx
  | nil => exact .nil
  | tight a n xs hx => exact .tight a n xs hx
  | row id n v hi ho hx =>
    refine .row id n v (Nat.lt_of_lt_of_le hi hle) ho fun mt sz xs hs => ?_
    rw [own_get hb l (by omega)] at hs
    obtain ⟨h1, h2⟩ := hx mt sz xs hs
    refine ⟨h1, fun e => ?_⟩
    have h3 := h2 e
    unfold Hdr at *
    simp only [ownG]
    rw [if_pos (by omega)]; exact h3
  | rp id n i off v hi ho hx =>
    refine .rp id n i off v (Nat.lt_of_lt_of_le hi hle) ho fun mt sz xs hs => ?_
    rw [own_get hb l (by omega)] at hs
    obtain ⟨h1, h2⟩ := hx mt sz xs hs
    refine ⟨h1, fun e => ?_⟩
    obtain ⟨g, cap, e1, e2, e3⟩ := h2 e
    exact ⟨g, cap, by simp only [ownG]; rw [if_pos (by omega)]; exact e1, e2, e3⟩
  | ptr id off b c hi hr hx =>
    refine .ptr id off b c (Nat.lt_of_lt_of_le hi hle) (fun mt sz xs hs => ?_) (by simp only [ownG]; rw [if_pos (by omega)]; exact hx)
    rw [own_get hb l (by omega)] at hs
    exact hr _ _ _ hs
  | clo f us vs fs cs hk hl' hq hr ih1 ih2 => exact .clo f us vs fs cs hk hl' ih1 ih2
  | agg vs cs hl' ho hr ih => exact .agg vs cs hl' ho ih
  | tup vs cs hl' hr ih => exact .tup vs cs hl' ih
  | bot v => exact .bot v

theorem und_le {m m' : Nat} (h : m ≤ m') {x : AV} (hx : x.und m = true) : x.und m' = true := AV.und_mono h x hx

theorem nodup_inj : ∀ (l : List Nat), l.Nodup → ∀ (i j : Nat) (hi : i < l.length) (hj : j < l.length), l[i] = l[j] → i = j
  | [], _, i, _, hi, _, _ => absurd hi (Nat.not_lt_zero i)
  | a :: r, hn, i, j, hi, hj, e => by
    rw [List.nodup_cons] at hn
    match i, j with
    | 0, 0 => rfl
    | 0, j + 1 =>
      simp only [List.getElem_cons_zero, List.getElem_cons_succ] at e
      exact absurd (e ▸ List.getElem_mem _) hn.1
    | i + 1, 0 =>
      simp only [List.getElem_cons_zero, List.getElem_cons_succ] at e
      exact absurd (e ▸ List.getElem_mem _) hn.1
    | i + 1, j + 1 =>
      simp only [List.getElem_cons_succ] at e
      rw [nodup_inj r hn.2 i j (by simpa using hi) (by simpa using hj) e]

theorem own_inv {base : Nat} {ids : List Nat} {l : St} (inv : Inv G st w) (hb : base ≤ st.length) (hlow : Low st base) (hge : ∀ id, id ∈ ids → base ≤ id) (hnd : ids.Nodup) (hl : rowsAt st ids = some l) : Inv (ownG G base ids) (st.take base ++ l) w := by
  obtain ⟨r1, r2⟩ := rowsAt_spec ids l hl
  have it := inv.take hb hlow
  have hlen : (st.take base).length = base := by rw [List.length_take]; omega
  have old : ∀ i, i < base → (ownG G base ids).ps i = G.ps i := fun i hi => by simp only [ownG]; rw [if_pos hi]
  have new : ∀ k, (ownG G base ids).ps (base + k) = (ids[k]?).bind G.ps := fun k => by simp only [ownG]; rw [if_neg (by omega)]; congr 2; omega
  have split' : ∀ i, i < (st.take base ++ l).length → i < base ∨ ∃ k id, i = base + k ∧ ids[k]? = some id ∧ id < st.length ∧ base ≤ id := by
    intro i hi
    by_cases h : i < base
    · exact .inl h
    · right
      rw [List.length_append, hlen] at hi
      have hk : i - base < ids.length := by omega
      obtain ⟨mt, sz, xs, h1, _⟩ := r2 (i - base) ids[i - base] (by simp [hk])
      exact ⟨i - base, ids[i - base], by omega, by simp [hk], (List.getElem?_eq_some_iff.1 h1).1, hge _ (List.getElem_mem hk)⟩
  refine ⟨inv.mem, fun i ob hob => ?_, fun i j p q hi hj hp hq he => ?_, fun i p hi hp => ?_⟩
  · have hi := (List.getElem?_eq_some_iff.1 hob).1
    rcases split' i hi with h | ⟨k, id, rfl, hk, hid, hge'⟩
    · rw [own_get hb l h] at hob
      have ho := it.objs i ob hob
      cases ob with
      | var cells =>
        refine ⟨fun c hc => und_le (by rw [List.length_append]; omega) (ho.1 c hc), ?_⟩
        rw [old i h]
        rcases ho.2 with h0 | ⟨b, c, cur, T, e1, e2, e3, e4, e5, e6⟩
        · exact .inl h0
        · exact .inr ⟨b, c, cur, T, e1, e2, e3, e4, fun k v c h1 h2 => (e5 k v c h1 h2).own hb, e6⟩
      | row mt sz xs =>
        obtain ⟨h1, h2, h3⟩ := ho
        refine ⟨h1, h2, ?_⟩
        rw [old i h]; exact h3
      | iter s pos =>
        obtain ⟨b, c, e1, e2⟩ := ho
        exact ⟨b, c, by rw [old i h]; exact e1, e2⟩
      | dead => trivial
    · rw [own_get2 hb l k] at hob
      obtain ⟨mt, sz, xs, h1, h2⟩ := r2 k id hk
      rw [h2] at hob; injection hob with hob; subst hob
      obtain ⟨g1, g2, g3⟩ := inv.objs id _ h1
      refine ⟨g1, g2, ?_⟩
      rw [new k, hk]; exact g3
  · rcases split' i hi with h | ⟨k, id, rfl, hk, hid, hge'⟩
    · rw [old i h] at hp
      rcases split' j hj with h' | ⟨k', id', rfl, hk', hid', hge''⟩
      · rw [old j h'] at hq
        exact inv.inj i j p q (by omega) (by omega) hp hq he
      · rw [new k', hk'] at hq
        have := inv.inj i id' p q (by omega) hid' hp hq he
        omega
    · rw [new k, hk] at hp
      rcases split' j hj with h' | ⟨k', id', rfl, hk', hid', hge''⟩
      · rw [old j h'] at hq
        have := inv.inj id j p q hid (by omega) hp hq he
        omega
      · rw [new k', hk'] at hq
        have hee := inv.inj id id' p q hid hid' hp hq he
        subst hee
        have hk1 := List.getElem?_eq_some_iff.1 hk
        have hk2 := List.getElem?_eq_some_iff.1 hk'
        have := nodup_inj ids hnd k k' hk1.1 hk2.1 (hk1.2.trans hk2.2.symm)
        omega
  · rcases split' i hi with h | ⟨k, id, rfl, hk, hid, hge'⟩
    · rw [old i h] at hp; exact inv.lt i p (by omega) hp
    · rw [new k, hk] at hp; exact inv.lt id p hid hp

theorem own_ext {G0 : Gh} {st0 : St} {w0 : World} {ids : List Nat} {l : St} (e : Ext st0.length G0 st0 w0 G st w) (hge : ∀ id, id ∈ ids → st0.length ≤ id) (hl : rowsAt st ids = some l) : Ext st0.length G0 st0 w0 (ownG G st0.length ids) (st.take st0.length ++ l) w := by
  obtain ⟨r1, r2⟩ := rowsAt_spec ids l hl
  have hb := e.len
  have et := e.take (Nat.le_refl st0.length)
  have hlen : (st.take st0.length).length = st0.length := by rw [List.length_take]; omega
  have old : ∀ i, i < st0.length → (ownG G st0.length ids).ps i = G.ps i := fun i hi => by simp only [ownG]; rw [if_pos hi]
  refine ⟨e.mem, e.size, by rw [List.length_append, hlen]; omega, fun i ob hob => ?_, e.foreign, fun i p hi hp => ?_, fun m hm hlo => ?_, e.os, e.tape, e.output⟩
  · have hi := (List.getElem?_eq_some_iff.1 hob).1
    have hk := et.kind i ob hob
    have hs := own_get hb l hi
    cases ob <;> simp only [Kept, old i hi, hs] at hk ⊢ <;> exact hk
  · by_cases h : i < st0.length
    · rw [old i h] at hp
      exact et.blocks i p (by rw [hlen]; omega) hp
    · rw [List.length_append, hlen] at hi
      have hk : i - st0.length < ids.length := by omega
      have hid : ids[i - st0.length]? = some ids[i - st0.length] := by simp [hk]
      obtain ⟨mt, sz, xs, h1, _⟩ := r2 _ _ hid
      simp only [ownG] at hp
      rw [if_neg h, hid] at hp
      have hge' := hge _ (List.getElem_mem hk)
      rcases e.blocks _ p (List.getElem?_eq_some_iff.1 h1).1 hp with ⟨h3, _⟩ | h3
      · omega
      · exact .inr h3
  · have := et.age m hm hlo
    intro i cells hi hs
    rw [own_get hb l (by omega)] at hs
    exact this i cells hi hs

theorem semi1_rel (inv : Inv G st w) {base : Nat} {v : Value} {x : AV} (h : RelV G st v x) : RelV G st v (semi1 st base x) := by
  unfold semi1
  split
  · split
    · exact h
    · exact firm_rel inv h
  · exact firm_rel inv h

theorem semi_rel (inv : Inv G st w) {base : Nat} {v : Value} {x : AV} (h : RelV G st v x) : RelV G st v (semi st base x) := by
  unfold semi
  split
  · cases h with
    | agg vs cs hl ho hr =>
      refine .agg vs _ (by simpa using hl) ho fun k u c hu hc => ?_
      simp only [List.getElem?_map, Option.map_eq_some_iff] at hc
      obtain ⟨c0, hc0, rfl⟩ := hc
      exact semi1_rel inv (hr k u c0 hu hc0)
  · exact semi1_rel inv h

theorem renum1_rel {base : Nat} {ids : List Nat} {l : St} (hb : base ≤ st.length) (hl : rowsAt st ids = some l) {v : Value} {x : AV} (h : RelV G st v x) (hc : chk1 base x = true) (hin : ∀ id, id ∈ ownIds1 base x → id ∈ ids) :
    RelV (ownG G base ids) (st.take base ++ l) v (renum1 base ids x) := by
  obtain ⟨r1, r2⟩ := rowsAt_spec ids l hl
  have und : x.und base = true → RelV (ownG G base ids) (st.take base ++ l) v x := fun hu => (h.take hb hu).own hb
  cases x with
  | row id n =>
    unfold renum1
    simp only
    by_cases hge : base ≤ id
    · rw [if_pos hge]
      have hm : id ∈ ids := hin id (by simp [ownIds1, hge])
      have hk : ids.idxOf id < ids.length := List.idxOf_lt_length_of_mem hm
      have hid : ids[ids.idxOf id]? = some id := by rw [List.getElem?_eq_getElem hk, List.getElem_idxOf]
      obtain ⟨mt, sz, xs, h1, h2⟩ := r2 _ id hid
      cases h with
      | row _ _ _ hi ho hx =>
        refine .row _ n v (by rw [List.length_append, List.length_take]; omega) ho fun mt' sz' xs' hs => ?_
        rw [own_get2 hb l, h2] at hs
        injection hs with hs; injection hs with a1 a2 a3; subst a1; subst a2; subst a3
        obtain ⟨g1, g2⟩ := hx mt sz xs h1
        refine ⟨g1, fun e => ?_⟩
        have g3 := g2 e
        unfold Hdr at *
        have : (ownG G base ids).ps (base + ids.idxOf id) = G.ps id := by
          simp only [ownG]
          rw [if_neg (by omega), show base + ids.idxOf id - base = ids.idxOf id by omega, hid]; rfl
        rw [this]; exact g3
    · rw [if_neg hge]
      exact und (by simp [AV.und]; omega)
  | _ => exact und hc

theorem renum_rel {base : Nat} {ids : List Nat} {l : St} (hb : base ≤ st.length) (hl : rowsAt st ids = some l) {v : Value} {x : AV} (h : RelV G st v x) (hc : chkO base x = true) (hin : ∀ id, id ∈ ownIds base x → id ∈ ids) :
    RelV (ownG G base ids) (st.take base ++ l) v (renum base ids x) := by
  cases x with
  | agg cs =>
    cases h with
    | agg vs _ hll ho hr =>
      refine .agg vs _ (by simpa using hll) ho fun k u c hu hc' => ?_
      simp only [List.getElem?_map, Option.map_eq_some_iff] at hc'
      obtain ⟨c0, hc0, rfl⟩ := hc'
      have hm := List.mem_of_getElem? hc0
      exact renum1_rel hb hl (hr k u c0 hu hc0) (List.all_eq_true.1 hc c0 hm) fun id hid => hin id (by simp only [ownIds, List.mem_flatMap]; exact ⟨c0, hm, hid⟩)
  | _ => exact renum1_rel hb hl h hc hin

theorem ownIds_ge {base : Nat} {x : AV} {id : Nat} (h : id ∈ ownIds base x) : base ≤ id := by
  have one : ∀ y : AV, id ∈ ownIds1 base y → base ≤ id := by
    intro y hy
    unfold ownIds1 at hy
    split at hy
    · split at hy
      · rename_i hge; simp at hy; omega
      · cases hy
    · cases hy
  cases x with
  | agg cs =>
    simp only [ownIds, List.mem_flatMap] at h
    obtain ⟨c, _, hc⟩ := h
    exact one c hc
  | _ => exact one _ (by simpa only [ownIds] using h)

theorem leave_rel {G0 : Gh} {st0 : St} {w0 : World} {md : Nat} {xs : List AV} {r : ARes} {st' : St} {vs : List Value} (inv : Inv G st w) (e : Ext st0.length G0 st0 w0 G st w) (hlow : Low st0 st0.length) (hl : vs.length = xs.length)
    (h : ∀ (k : Nat) v x, vs[k]? = some v → xs[k]? = some x → RelV G st v x) (hr : leave md st0.length st xs = some (r, st')) : ∃ x G', r = .ret x ∧ RelV G' st' (oneV vs) x ∧ Inv G' st' w ∧ Ext st0.length G0 st0 w0 G' st' w := by
  unfold leave at hr
  split at hr
  · obtain ⟨G1, i1, e1⟩ := frzA_ok (tm := st0.length) xs inv
    have e2 := e.trans e1
    have h1 : ∀ (k : Nat) v x, vs[k]? = some v → xs[k]? = some x → RelV G1 (frzA st xs) v x := fun k v x hv hx => (h k v x hv hx).ext e1
    simp only [Option.some.injEq, Prod.mk.injEq] at hr
    obtain ⟨rfl, rfl⟩ := hr
    refine ⟨_, G1, rfl, oneOf_rel (by simpa using hl) fun k v x hv hx => ?_, i1, e2⟩
    simp only [List.getElem?_map, Option.map_eq_some_iff] at hx
    obtain ⟨y, hy, rfl⟩ := hx
    exact firm_rel i1 (h1 k v y hv hy)
  · split at hr
    · split at hr
      · rename_i hnd
        split at hr
        · rename_i l hrl
          simp only [Option.some.injEq, Prod.mk.injEq] at hr
          obtain ⟨rfl, rfl⟩ := hr
          have hlw : Low st st0.length := e.age _ (Nat.le_refl _) hlow
          have hge : ∀ id, id ∈ (xs.map (semi st st0.length)).flatMap (ownIds st0.length) → st0.length ≤ id := fun id hid => by
            simp only [List.mem_flatMap] at hid
            obtain ⟨x, _, hx⟩ := hid
            exact ownIds_ge hx
          refine ⟨_, ownG G st0.length ((xs.map (semi st st0.length)).flatMap (ownIds st0.length)), rfl, oneOf_rel (by simpa using hl) fun k v x hv hx => ?_, own_inv inv e.len hlw hge hnd.1 hrl, own_ext e hge hrl⟩
          simp only [List.getElem?_map, Option.map_eq_some_iff] at hx
          obtain ⟨y, ⟨z, hz, rfl⟩, rfl⟩ := hx
          have hm : semi st st0.length z ∈ xs.map (semi st st0.length) := List.mem_map.2 ⟨z, List.mem_of_getElem? hz, rfl⟩
          exact renum_rel e.len hrl (semi_rel inv (h k v z hv hz)) (List.all_eq_true.1 hnd.2 _ hm) fun id hid => List.mem_flatMap.2 ⟨_, hm, hid⟩
        · cases hr
      · cases hr
    · obtain ⟨G1, i1, e1⟩ := frzA_ok (tm := st0.length) (reach st st0.length 6 xs) inv
      have e2 := e.trans e1
      have h1 : ∀ (k : Nat) v x, vs[k]? = some v → xs[k]? = some x → RelV G1 (frzA st (reach st st0.length 6 xs)) v x := fun k v x hv hx => (h k v x hv hx).ext e1
      split at hr
      · rename_i hu
        simp only [Option.some.injEq, Prod.mk.injEq] at hr
        obtain ⟨rfl, rfl⟩ := hr
        rw [undL_iff] at hu
        have hb : st0.length ≤ (frzA st (reach st st0.length 6 xs)).length := e2.len
        have hlw : Low (frzA st (reach st st0.length 6 xs)) st0.length := e2.age _ (Nat.le_refl _) hlow
        refine ⟨_, ⟨frozen G1 (frzA st (reach st st0.length 6 xs)) w st0.length, G1.ps⟩, rfl, oneOf_rel (by simpa using hl) fun k v x hv hx => ?_, frozen_inv i1 hb hlw, frozen_ext e2 i1⟩
        have hm := hu x (List.mem_of_getElem? hx)
        simp only [List.getElem?_map, Option.map_eq_some_iff] at hx
        obtain ⟨y, hy, rfl⟩ := hx
        exact (fixed_rel i1 (h1 k v y hv hy)).take hb hm
      · cases hr

theorem enter_sound (hcall : CallOK P call) (hplain : CallPlain P call) (hm : P.follows .mixedOrders = true) {f : FuncId} {af : AFn} (hf : Fits P f af) {xs : List AV} {r : ARes} {st' : St} {tm : Nat} {vs : Array Value}
    (hrun : af.enter call xs st = some (r, st')) (inv : Inv G st w) (htm : tm ≤ st.length) (hl : vs.size = xs.length) (hr : ∀ (k : Nat) (v : Value) (x : AV), vs[k]? = some v → xs[k]? = some x → RelV G st v x) :
    Calls P f vs w (Came tm G st w r st') := by
  obtain ⟨fn, c, h, rs, f1, f2, f3, f4, f5, f6, f7⟩ := hf
  unfold AFn.enter at hrun
  split at hrun
  · rename_i hnp
    refine calls_of_wp f1 f2 ?_
    have fr : Fr fn.ntmps [] G st w G st w { tmps := vs ++ Array.replicate (fn.ntmps - vs.size) undef, defers := [] } [(st.length, params 0 xs)] := by
      refine ⟨fun s x hx => ?_, inv, by simp; omega, rfl, ⟨fun s x hx => by simp [Ly.get] at hx, fun _ hp => (by cases hp), trivial⟩, fun k e hk => ?_, by simp, Ext.refl _ _ _ _⟩
      · have hx' : Env.get (params 0 xs) s = some x := by
          simp only [Ly.get] at hx
          split at hx
          · rename_i y hy; rw [hy]; exact hx
          · cases hx
        rw [params_get] at hx'
        simp at hx'
        have hs : s < xs.length := (List.getElem?_eq_some_iff.1 hx').1
        have hs' : s < vs.size := by omega
        exact ⟨vs[s], by rw [Array.getElem?_append_left hs']; simp [hs'], hr s vs[s] x (by simp [hs']) hx'⟩
      · simp only [List.mem_singleton, Prod.mk.injEq] at hk
        obtain ⟨rfl, rfl⟩ := hk
        exact ⟨inv.low, Nat.le_refl _, Nat.le_refl _⟩
    have fin : ∀ (ly : Ly) (st1 : St) (a : Act) (w1 : World) (G1 : Gh), Fr fn.ntmps [] G st w G1 st1 w1 a ly → (∃ ys, evRes ly st1 af.res = some ys ∧ leave af.md st.length st1 ys = some (r, st')) →
        a.defers = [] ∧ ∃ v, (results fn a.tmps).run P w1 = .ok v w1 ∧ Came tm G st w r st' (.returned v) w1 := by
      intro ly st1 a w1 G1 fr1 ⟨ys, h1, h2⟩
      obtain ⟨us, g1, g2, g3, g4⟩ := res_rel (P := P) fr1.inv fr1.env rs af.res ys f6 h1
      obtain ⟨x, G', rfl, k1, k2, k3⟩ := leave_rel fr1.inv fr1.ext inv.low g2 g4 h2
      exact ⟨fr1.defers, oneV us, run_results rs us f4 f5 g1 g3, oneV us, G', rfl, k1, k2, k3.weaken htm⟩
    split at hrun
    · rename_i ly st1 hb
      split at hrun
      · rename_i ys hys
        exact code_sound hcall hplain hm c af.body f3 _ .norm _ _ _ _ _ _ _ fr hb fun G1 a w1 fr1 => fin ly st1 a w1 G1 fr1 ⟨ys, hys, hrun⟩
      · cases hrun
    · rename_i ly st1 hb
      split at hrun
      · rename_i ys hys
        exact code_sound hcall hplain hm c af.body f3 _ .ret _ _ _ _ _ _ _ fr hb fun G1 a w1 fr1 => fin ly st1 a w1 G1 fr1 ⟨ys, hys, hrun⟩
      · cases hrun
    · rename_i p ly st1 hb
      simp only [Option.some.injEq, Prod.mk.injEq] at hrun
      obtain ⟨rfl, rfl⟩ := hrun
      refine code_sound hcall hplain hm c af.body f3 _ (.pan p) _ _ _ _ _ _ _ fr hb fun v G1 a w1 hv fr1 => ⟨fr1.defers, v, G1, rfl, hv, ?_, ?_⟩
      · exact fr1.inv.take fr1.ext.len (fr1.ext.age _ (Nat.le_refl _) inv.low)
      · exact (fr1.ext.take (Nat.le_refl _)).weaken htm
    · cases hrun
  · cases hrun

end
end Go.Proofs.Kh
