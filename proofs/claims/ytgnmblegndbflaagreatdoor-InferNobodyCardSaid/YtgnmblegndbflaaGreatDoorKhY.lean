/- What is cut off again; frames; one operation in a frame of which no more is known than what it looks at. -/
import Derived.Test.YtgnmblegndbflaaGreatDoorKhX
namespace Go.Proofs.Kh
set_option linter.all false
set_option linter.unusedVariables false
set_option linter.unusedSimpArgs false
open Go

theorem RelV.take {G : Gh} {st : St} {v : Value} {x : AV} (h : RelV G st v x) {m : Nat} (hm : m ≤ st.length) : x.und m = true → RelV G (st.take m) v x := by
  have hlen : (st.take m).length = m := by simp [List.length_take]; omega
  have get : ∀ i, i < m → (st.take m)[i]? = st[i]? := fun i hi => by rw [List.getElem?_take, if_pos hi]
  induction h with
  | pd v x hx => exact fun _ => .pd v x hx
  | nil => exact fun _ => .nil
  | tight a n xs hx => exact fun _ => .tight a n xs hx
  | row id n v hi ho hx =>
    intro hu
    simp only [AV.und, decide_eq_true_eq] at hu
    exact .row id n v (by omega) ho fun mt sz xs hs => hx mt sz xs (by rwa [get id hu] at hs)
  | rp id n i off v hi ho hx =>
    intro hu
    simp only [AV.und, decide_eq_true_eq] at hu
    exact .rp id n i off v (by omega) ho fun mt sz xs hs => hx mt sz xs (by rwa [get id hu] at hs)
  | ptr id off b c hi hr hx =>
    intro hu
    simp only [AV.und, decide_eq_true_eq] at hu
    exact .ptr id off b c (by omega) (fun mt sz xs hs => hr mt sz xs (by rwa [get id hu] at hs)) hx
  | clo f us vs fs cs hk hl hq hr ih1 ih2 =>
    intro hu
    simp only [AV.und, Bool.and_eq_true, undL_iff] at hu
    exact .clo f us vs fs cs hk hl (fun k v c h1 h2 => ih1 k v c h1 h2 (hu.1 c (List.mem_of_getElem? h2))) (fun k v c h1 h2 => ih2 k v c h1 h2 (hu.2 c (List.mem_of_getElem? h2)))
  | agg vs cs hl ho hr ih =>
    intro hu
    simp only [AV.und, undL_iff] at hu
    exact .agg vs cs hl ho fun k v c h1 h2 => ih k v c h1 h2 (hu c (List.mem_of_getElem? h2))
  | tup vs cs hl hr ih =>
    intro hu
    simp only [AV.und, undL_iff] at hu
    exact .tup vs cs hl fun k v c h1 h2 => ih k v c h1 h2 (hu c (List.mem_of_getElem? h2))
  | bot v => exact fun _ => .bot v

theorem take_get {st : St} {m i : Nat} (hi : i < m) : (st.take m)[i]? = st[i]? := by rw [List.getElem?_take, if_pos hi]

theorem take_some {st : St} {m i : Nat} {ob : Obj} (h : (st.take m)[i]? = some ob) : i < m ∧ st[i]? = some ob := by
  rw [List.getElem?_take] at h
  split at h
  · exact ⟨by assumption, h⟩
  · cases h

theorem Inv.take {G : Gh} {st : St} {w : World} (inv : Inv G st w) {m : Nat} (hm : m ≤ st.length) (hl : Low st m) : Inv G (st.take m) w := by
  have hlen : (st.take m).length = m := by simp [List.length_take]; omega
  refine ⟨inv.mem, fun id ob hob => ?_, fun i j p q hi hj => inv.inj i j p q (by omega) (by omega), fun i p hi => inv.lt i p (by omega)⟩
  obtain ⟨hid, hob⟩ := take_some hob
  have h := inv.objs id ob hob
  cases ob with
  | var cells =>
    refine ⟨fun c hc => by rw [hlen]; exact hl id cells hid hob c hc, ?_⟩
    rcases h.2 with h0 | ⟨b, c, cur, T, e1, e2, e3, e4, e5, e6⟩
    · exact .inl h0
    · exact .inr ⟨b, c, cur, T, e1, e2, e3, e4, fun k v c h1 h2 => (e5 k v c h1 h2).take hm (hl id cells hid hob c (List.mem_of_getElem? h2)), e6⟩
  | row mt sz xs => exact h
  | iter s pos => exact h
  | dead => trivial

theorem Low.take {st : St} {k : Nat} (h : Low st k) (m : Nat) : Low (st.take m) k := fun i cells hi hs => h i cells hi (take_some hs).2

theorem Inv.low {G : Gh} {st : St} {w : World} (inv : Inv G st w) : Low st st.length := fun i cells _ hs c hc => (inv.objs i _ hs).1 c hc

theorem Ext.take {tm : Nat} {G : Gh} {st : St} {w : World} {G' : Gh} {st' : St} {w' : World} (h : Ext tm G st w G' st' w') {m : Nat} (hm : st.length ≤ m) : Ext tm G st w G' (st'.take m) w' where
  mem := h.mem
  size := h.size
  len := by have := h.len; rw [List.length_take]; omega
  kind := fun i ob hob => by
    have hi : i < m := Nat.lt_of_lt_of_le (List.getElem?_eq_some_iff.1 hob).1 hm
    have := h.kind i ob hob
    cases ob <;> simp only [Kept, take_get hi] at this ⊢ <;> exact this
  foreign := h.foreign
  blocks := fun i p hi hp => h.blocks i p (by rw [List.length_take] at hi; omega) hp
  age := fun k hk hl => (h.age k hk hl).take m
  os := h.os
  tape := h.tape
  output := h.output

theorem Ext.weaken {tm tm' : Nat} {G : Gh} {st : St} {w : World} {G' : Gh} {st' : St} {w' : World} (h : Ext tm G st w G' st' w') (hm : tm' ≤ tm) : Ext tm' G st w G' st' w' :=
  { h with age := fun k hk hl => h.age k (by omega) hl }

theorem Env.get_set (e : Env) (d : Nat) (v : AV) (s : Nat) : Env.get (Env.set e d v) s = if s = d then (Env.get e d).map fun _ => v else Env.get e s := by
  induction e with
  | nil => simp [Env.set, Env.get]
  | cons p r ih =>
    obtain ⟨k, x⟩ := p
    by_cases hk : k = d
    · subst hk
      by_cases hs : s = k
      · subst hs; simp [Env.set, Env.get]
      · have : ¬ k = s := fun e => hs e.symm
        simp [Env.set, Env.get, hs, this]
    · by_cases hs : s = d
      · subst hs; simpa [Env.set, Env.get, hk] using ih
      · rw [if_neg hs] at ih
        simp only [Env.set, if_neg hk, Env.get, ih, if_neg hs]

theorem older_und {st : St} {m k : Nat} {x : AV} (h : x.und k = true) : (older st m x).und k = true := by
  unfold older
  split
  · exact h
  · unfold firm
    split
    · rfl
    · exact h

theorem clip_und_of {m k : Nat} {x : AV} (h : x.und k = true) : (x.clip m).und k = true := by
  unfold AV.clip
  split
  · exact h
  · rfl

/-- What a slot holds behind it. -/
theorem lyPut_get (st : St) : ∀ (ly : Ly) (d : Nat) (v : AV) (s : Nat), s ≠ d → Ly.get (lyPut st ly d v) s = Ly.get ly s
  | [], _, _, _, _ => rfl
  | (m, e) :: r, d, v, s, hs => by
    unfold lyPut
    cases he : Env.get e d with
    | some y => simp only [Ly.get, Env.get_set, if_neg hs]
    | none =>
      cases hr : Ly.get r d with
      | some y => simp only [Ly.get, lyPut_get st r d _ s hs]
      | none =>
        have : ¬ d = s := fun e => hs e.symm
        simp [Ly.get, Env.get, this]

theorem lyPut_self (P : AV → Prop) (st : St) (hP : ∀ m v, P v → P ((older st m v).clip m)) : ∀ (ly : Ly) (d : Nat) (v x : AV), P v → Ly.get (lyPut st ly d v) d = some x → P x
  | [], _, _, _, _, h => by simp [lyPut, Ly.get] at h
  | (m, e) :: r, d, v, x, hv, h => by
    unfold lyPut at h
    cases he : Env.get e d with
    | some y =>
      simp only [he, Ly.get, Env.get_set, if_true, Option.map_some, Option.some.injEq] at h
      exact h ▸ hv
    | none =>
      cases hr : Ly.get r d with
      | some y =>
        simp only [he, hr, Ly.get] at h
        exact lyPut_self P st hP r d _ x (hP m v hv) h
      | none =>
        simp only [he, hr, Ly.get, Env.get, if_true, Option.some.injEq] at h
        exact h ▸ hv

def Ly.fits : Ly → Prop
  | [] => True
  | (m, e) :: r => (∀ s x, Ly.get r s = some x → x.und m = true ∧ Env.get e s = none) ∧ (∀ p, p ∈ r → p.1 ≤ m) ∧ Ly.fits r

theorem lyPut_marks (st : St) : ∀ (ly : Ly) (d : Nat) (v : AV) (k : Nat), (∃ e, (k, e) ∈ lyPut st ly d v) → ∃ e, (k, e) ∈ ly
  | [], _, _, _, h => by simpa [lyPut] using h
  | (m, e) :: r, d, v, k, h => by
    unfold lyPut at h
    obtain ⟨e', h⟩ := h
    cases he : Env.get e d with
    | some y =>
      simp only [he, List.mem_cons, Prod.mk.injEq] at h
      rcases h with ⟨rfl, _⟩ | h
      · exact ⟨e, by simp⟩
      · exact ⟨e', by simp [h]⟩
    | none =>
      cases hr : Ly.get r d with
      | some y =>
        simp only [he, hr, List.mem_cons, Prod.mk.injEq] at h
        rcases h with ⟨rfl, _⟩ | h
        · exact ⟨e, by simp⟩
        · obtain ⟨e2, h2⟩ := lyPut_marks st r d _ k ⟨e', h⟩
          exact ⟨e2, by simp [h2]⟩
      | none =>
        simp only [he, hr, List.mem_cons, Prod.mk.injEq] at h
        rcases h with ⟨rfl, _⟩ | h
        · exact ⟨e, by simp⟩
        · exact ⟨e', by simp [h]⟩

theorem lyPut_fits (st : St) : ∀ (ly : Ly) (d : Nat) (v : AV), Ly.fits ly → Ly.fits (lyPut st ly d v)
  | [], _, _, h => h
  | (m, e) :: r, d, v, h => by
    unfold lyPut
    obtain ⟨h1, h2, h3⟩ := h
    cases he : Env.get e d with
    | some y =>
      refine ⟨fun s x hx => ?_, h2, h3⟩
      obtain ⟨g1, g2⟩ := h1 s x hx
      refine ⟨g1, ?_⟩
      by_cases hs : s = d
      · subst hs; rw [he] at g2; cases g2
      · rw [Env.get_set, if_neg hs]; exact g2
    | none =>
      cases hr : Ly.get r d with
      | some y =>
        refine ⟨fun s x hx => ?_, fun p hp => ?_, lyPut_fits st r d _ h3⟩
        · by_cases hs : s = d
          · subst hs
            exact ⟨lyPut_self (fun x => x.und m = true) st (fun k v hv => clip_und_of (older_und hv)) r s _ x (AV.clip_und m _) hx, he⟩
          · rw [lyPut_get st r d _ s hs] at hx
            exact h1 s x hx
        · obtain ⟨e2, h4⟩ := lyPut_marks st r d _ p.1 ⟨p.2, hp⟩
          exact h2 (p.1, e2) h4
      | none =>
        refine ⟨fun s x hx => ?_, h2, h3⟩
        obtain ⟨g1, g2⟩ := h1 s x hx
        refine ⟨g1, ?_⟩
        have : ¬ d = s := fun e => by subst e; rw [hr] at hx; cases hx
        simp [Env.get, this, g2]

theorem lyPut_top (st : St) (ly : Ly) (d : Nat) (v : AV) : Ly.top (lyPut st ly d v) = Ly.top ly := by
  cases ly with
  | nil => rfl
  | cons p r =>
    obtain ⟨m, e⟩ := p
    unfold lyPut
    cases Env.get e d with
    | some y => rfl
    | none => cases Ly.get r d <;> rfl

/-- A frame that runs: what its slots hold is known; it began in st0, w0. -/
structure Fr (N : Nat) (ds : List Deferred) (G0 : Gh) (st0 : St) (w0 : World) (G : Gh) (st : St) (w : World) (a : Act) (ly : Ly) : Prop where
  env : EnvRel G st a ly
  inv : Inv G st w
  size : a.tmps.size = N
  defers : a.defers = ds
  fits : Ly.fits ly
  low : ∀ k e, (k, e) ∈ ly → Low st k ∧ k ≤ st.length ∧ st0.length ≤ k
  ne : ly ≠ []
  ext : Ext st0.length G0 st0 w0 G st w

section
variable {P : Program} {N : Nat} {ds : List Deferred} {G0 : Gh} {st0 : St} {w0 : World} {G : Gh} {st : St} {w : World} {a : Act} {ly : Ly}

theorem Fr.top (fr : Fr N ds G0 st0 w0 G st w a ly) : Ly.top ly ≤ st.length ∧ st0.length ≤ Ly.top ly := by
  cases ly with
  | nil => exact absurd rfl fr.ne
  | cons p r => exact (fr.low p.1 p.2 (by simp)).2

theorem Fr.tops (fr : Fr N ds G0 st0 w0 G st w a ly) {k : Nat} {e : Env} (h : (k, e) ∈ ly) : k ≤ Ly.top ly := by
  cases ly with
  | nil => cases h
  | cons p r =>
    cases h with
    | head => exact Nat.le_refl _
    | tail _ h => exact fr.fits.2.1 _ h

theorem EnvRel.put {d : Nat} {v : Value} {x : AV} (he : EnvRel G st a ly) (inv : Inv G st w) (hd : d < a.tmps.size) (h : RelV G st v x) : EnvRel G st (a.put (some d) v) (lyPut st ly d x) := by
  intro s y hy
  by_cases hs : s = d
  · subst hs
    refine ⟨v, by simp [Act.put, hd], ?_⟩
    exact lyPut_self (fun y => RelV G st v y) st (fun m z hz => (older_rel inv hz m).clip m) ly s x y h hy
  · rw [lyPut_get st ly d x s hs] at hy
    obtain ⟨u, h1, h2⟩ := he s y hy
    exact ⟨u, by simp only [Act.put]; rw [Array.getElem?_setIfInBounds_ne (Ne.symm hs)]; exact h1, h2⟩

theorem Fr.put {G' : Gh} {st' : St} {w' : World} {v : Value} {x : AV} (fr : Fr N ds G0 st0 w0 G st w a ly) (d : Option Nat) (hd : ∀ k, d = some k → k < N) (h : RelV G' st' v x) (inv : Inv G' st' w') (e : Ext (Ly.top ly) G st w G' st' w') :
    Fr N ds G0 st0 w0 G' st' w' (a.put d v) (putO st' ly d x) := by
  have he : EnvRel G' st' a ly := fun s x hx => let ⟨v, h1, h2⟩ := fr.env s x hx; ⟨v, h1, h2.ext e⟩
  have hlow : ∀ k e', (k, e') ∈ ly → Low st' k ∧ k ≤ st'.length ∧ st0.length ≤ k := fun k e' hk => by
    obtain ⟨h1, h2, h3⟩ := fr.low k e' hk
    exact ⟨e.age k (fr.tops hk) h1, Nat.le_trans h2 e.len, h3⟩
  have hext := fr.ext.trans (e.weaken fr.top.2)
  cases d with
  | none => exact ⟨he, inv, fr.size, fr.defers, fr.fits, hlow, fr.ne, hext⟩
  | some d =>
    refine ⟨he.put inv (by rw [fr.size]; exact hd d rfl) h, inv, by simpa [Act.put] using fr.size, by simpa [Act.put] using fr.defers, lyPut_fits _ _ _ _ fr.fits, fun k e' hk => ?_, ?_, hext⟩
    · obtain ⟨e2, h2⟩ := lyPut_marks st' ly d x k ⟨e', hk⟩
      exact hlow k e2 h2
    · intro h0
      cases hl : ly with
      | nil => exact fr.ne hl
      | cons p r =>
        obtain ⟨m, e⟩ := p
        rw [hl] at h0
        simp only [putO] at h0
        unfold lyPut at h0
        cases h1 : Env.get e d with
        | some y => simp [h1] at h0
        | none => cases h2 : Ly.get r d <;> simp [h1, h2] at h0

theorem Fr.still {G' : Gh} {st' : St} {w' : World} (fr : Fr N ds G0 st0 w0 G st w a ly) (inv : Inv G' st' w') (e : Ext (Ly.top ly) G st w G' st' w') : Fr N ds G0 st0 w0 G' st' w' a ly :=
  fr.put none (fun _ h => by cases h) (RelV.bot undef) inv e
end
end Go.Proofs.Kh
