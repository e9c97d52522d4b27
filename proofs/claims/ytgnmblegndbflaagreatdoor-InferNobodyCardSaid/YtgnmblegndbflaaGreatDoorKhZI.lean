/- What a function laid and gives back holds still from then on; the rest of it is gone. -/
import Derived.Test.YtgnmblegndbflaaGreatDoorKhZH
namespace Go.Proofs.Kh
set_option linter.all false
set_option linter.unusedVariables false
set_option linter.unusedSimpArgs false
open Go

def fixL (f : AV → Option PD) : List AV → Option (List PD)
  | [] => some []
  | x :: r => match f x, fixL f r with
    | some p, some ps => if p.single then some (p :: ps) else none
    | _, _ => none

/-- Without places, if what it leads to was laid from base on. -/
def fixC (st : St) (base : Nat) : Nat → AV → Option PD
  | 0, x => toPD st x
  | n + 1, x => match x with
    | .ptr id off => if base ≤ id then (match st[id]? with
      | some (.var cells) => match fixL (fixC st base n) cells with
        | some ps => some (.ref ps off)
        | none => none
      | _ => none) else none
    | .agg cs => match fixL (fixC st base n) cs with
      | some ps => some (.agg ps)
      | none => none
    | x => pd1 st x

def fixed (st : St) (base : Nat) (x : AV) : AV := match fixC st base 6 x with
  | some p => .pd p
  | none => x

/-- What lies in the variables laid from base on that these lead to. -/
def below (st : St) (base : Nat) : AV → List AV
  | .ptr id _ => if base ≤ id then (match st[id]? with
    | some (.var cs) => cs
    | _ => []) else []
  | .agg cs => cs
  | .clo _ fs cs => fs ++ cs
  | _ => []

def reach (st : St) (base : Nat) : Nat → List AV → List AV
  | 0, xs => xs
  | n + 1, xs => match xs.flatMap (below st base) with
    | [] => xs
    | ys => xs ++ reach st base n ys

/-- The rows laid from base on that are given back. -/
def ownIds1 (base : Nat) : AV → List Nat
  | .row id _ => if base ≤ id then [id] else []
  | _ => []

def ownIds (base : Nat) : AV → List Nat
  | .agg cs => cs.flatMap (ownIds1 base)
  | x => ownIds1 base x

def renum1 (base : Nat) (ids : List Nat) : AV → AV
  | .row id n => if base ≤ id then .row (base + ids.idxOf id) n else .row id n
  | x => x

def renum (base : Nat) (ids : List Nat) : AV → AV
  | .agg cs => .agg (cs.map (renum1 base ids))
  | x => renum1 base ids x

def rowsAt (st : St) : List Nat → Option St
  | [] => some []
  | i :: r => match st[i]?, rowsAt st r with
    | some (.row mt sz xs), some l => some (.row mt sz xs :: l)
    | _, _ => none

/-- Without places, but for rows of its own. -/
def semi1 (st : St) (base : Nat) : AV → AV
  | .row id n => if base ≤ id then .row id n else firm st (.row id n)
  | x => firm st x

def semi (st : St) (base : Nat) : AV → AV
  | .agg cs => .agg (cs.map (semi1 st base))
  | x => semi1 st base x

def chk1 (base : Nat) : AV → Bool
  | .row _ _ => true
  | x => x.und base

def chkO (base : Nat) : AV → Bool
  | .agg cs => cs.all (chk1 base)
  | x => chk1 base x

/-- How it comes back: cut to what was there (0); not cut (1); with rows of its own (2). -/
def leave (md : Nat) (base : Nat) (st : St) (xs : List AV) : Option Out :=
  if md = 1 then some (.ret (oneOf (xs.map (firm (frzA st xs)))), frzA st xs)
  else if md = 2 then
    (if ((xs.map (semi st base)).flatMap (ownIds base)).Nodup ∧ (xs.map (semi st base)).all (chkO base) = true then
      (match rowsAt st ((xs.map (semi st base)).flatMap (ownIds base)) with
        | some l => some (.ret (oneOf ((xs.map (semi st base)).map (renum base ((xs.map (semi st base)).flatMap (ownIds base))))), st.take base ++ l)
        | none => none) else none)
  else if AV.undL base (xs.map (fixed (frzA st (reach st base 6 xs)) base)) then some (.ret (oneOf (xs.map (fixed (frzA st (reach st base 6 xs)) base))), (frzA st (reach st base 6 xs)).take base) else none

open Classical in
noncomputable def frozen (G : Gh) (st : St) (w : World) (base : Nat) : Mem := fun b o =>
  if ∃ id cells c, base ≤ id ∧ st[id]? = some (.var cells) ∧ G.ps id = some (b, c) then w.cell? ⟨b, o, none⟩ else G.M b o

section
variable {P : Program} {G : Gh} {st : St} {w : World} {base : Nat}

theorem frozen_le (inv : Inv G st w) : Mem.le G.M (frozen G st w base) := by
  intro b o v h
  unfold frozen
  split
  · exact inv.mem b o v h
  · exact h

theorem frozen_mem (inv : Inv G st w) (b o : Nat) (v : Value) (h : frozen G st w base b o = some v) : w.cell? ⟨b, o, none⟩ = some v := by
  unfold frozen at h
  split at h
  · exact h
  · exact inv.mem b o v h

theorem frozen_old (inv : Inv G st w) {id : Nat} (hi : id < base) (hl : id < st.length) {p : Nat × Nat} (hp : G.ps id = some p) (o : Nat) : frozen G st w base p.1 o = G.M p.1 o := by
  unfold frozen
  rw [if_neg]
  rintro ⟨j, cells, c, hj, hs, hq⟩
  have := inv.inj id j p (p.1, c) hl (List.getElem?_eq_some_iff.1 hs).1 hp hq rfl
  omega

theorem fixL_spec (f : AV → Option PD) : ∀ (cs : List AV) (ps : List PD), fixL f cs = some ps → ps.length = cs.length ∧ (∀ p, p ∈ ps → p.single = true) ∧ ∀ (k : Nat) (c : AV) (p : PD), cs[k]? = some c → ps[k]? = some p → f c = some p
  | [], ps, h => by simp only [fixL, Option.some.injEq] at h; subst h; simp
  | c :: r, ps, h => by
    simp only [fixL] at h
    split at h
    · rename_i x xs hx hxs
      split at h
      · rename_i hsx
        injection h with h; subst h
        obtain ⟨e1, e2, e3⟩ := fixL_spec f r xs hxs
        refine ⟨by simp [e1], fun p hp => ?_, fun k c' p hc hp => ?_⟩
        · cases hp with
          | head => exact hsx
          | tail _ hp => exact e2 p hp
        · cases k with
          | zero => simp at hc hp; subst hc; subst hp; exact hx
          | succ k => simp at hc hp; exact e3 k c' p hc hp
      · cases h
    · cases h

theorem fixC_rel (inv : Inv G st w) : ∀ (n : Nat) (v : Value) (x : AV) (p : PD), RelV G st v x → fixC st base n x = some p → RelP (frozen G st w base) v p
  | 0, v, x, p, h, hp => (toPD_rel inv h hp).mono (frozen_le inv)
  | n + 1, v, x, p, h, hp => by
    have plain : pd1 st x = some p → RelP (frozen G st w base) v p := fun hq => (pd1_rel inv h hq).mono (frozen_le inv)
    cases x with
    | ptr id off =>
      simp only [fixC] at hp
      split at hp
      · rename_i hb
        split at hp
        · rename_i cells hs
          split at hp
          · rename_i ps hps
            injection hp with hp; subst hp
            obtain ⟨e1, e2, e3⟩ := fixL_spec _ _ _ hps
            cases h with
            | ptr _ _ b c hid hr hpp =>
              rcases (inv.objs id _ hs).2 with h0 | ⟨b', c', cur, T, q1, q2, q3, q4, q5, q6⟩
              · rw [h0] at hpp; cases hpp
              · rw [hpp] at q1; injection q1 with q1; injection q1 with q1 q1'; subst q1; subst q1'
                have := RelP.ref (M := frozen G st w base) b 0 off ps (fun k => cur.getD k undef) e2 (fun k hk => ?_) (fun k c' hc => ?_)
                · rwa [Nat.zero_add] at this
                · have hk' : k < cur.size := by omega
                  unfold frozen
                  rw [if_pos ⟨id, cells, c, hb, hs, hpp⟩, Nat.zero_add, cell_of_row w b k cur T _ q2]
                  simp [hk']
                · have hk : k < ps.length := (List.getElem?_eq_some_iff.1 hc).1
                  have hk' : k < cur.size := by omega
                  have hk2 : k < cells.length := by omega
                  have := e3 k cells[k] c' (by simp [hk2]) hc
                  refine fixC_rel inv n _ cells[k] c' ?_ this
                  have := q5 k cur[k] cells[k] (by simp [hk']) (by simp [hk2])
                  simpa [hk'] using this
          · cases hp
        · cases hp
      · cases hp
    | agg cs =>
      simp only [fixC] at hp
      split at hp
      · rename_i ps hps
        injection hp with hp; subst hp
        obtain ⟨e1, e2, e3⟩ := fixL_spec _ _ _ hps
        obtain ⟨vs, rfl, hl, ho, hr⟩ := h.agg_inv
        refine .agg vs ps (by omega) e2 fun k u c hu hc => ?_
        have hk : k < cs.length := by have := (List.getElem?_eq_some_iff.1 hc).1; omega
        exact fixC_rel inv n u cs[k] c (hr k u cs[k] hu (by simp [hk])) (e3 k cs[k] c (by simp [hk]) hc)
      · cases hp
    | _ => exact plain (by simpa only [fixC] using hp)

theorem RelV.held {v : Value} {x : AV} (h : RelV G st v x) {M' : Mem} (hle : Mem.le G.M M') : RelV ⟨M', G.ps⟩ st v x := by
  induction h with
  | pd v x hx => exact .pd v x (hx.mono hle)
  | nil => exact .nil
  | tight a n xs hx => exact .tight a n xs (hx.mono hle)
  | row id n v hi ho hx => exact .row id n v hi ho hx
  | rp id n i off v hi ho hx => exact .rp id n i off v hi ho hx
  | ptr id off b c hi hr hx => exact .ptr id off b c hi hr hx
  | clo f us vs fs cs hk hl hq hr ih1 ih2 => exact .clo f us vs fs cs hk hl ih1 ih2
  | agg vs cs hl ho hr ih => exact .agg vs cs hl ho ih
  | tup vs cs hl hr ih => exact .tup vs cs hl ih
  | bot v => exact .bot v

theorem fixed_rel (inv : Inv G st w) {v : Value} {x : AV} (h : RelV G st v x) : RelV ⟨frozen G st w base, G.ps⟩ st v (fixed st base x) := by
  unfold fixed
  split
  · rename_i p hp; exact .pd _ _ (fixC_rel inv _ _ _ _ h hp)
  · exact h.held (frozen_le inv)

theorem frozen_inv (inv : Inv G st w) (hb : base ≤ st.length) (hl : Low st base) : Inv ⟨frozen G st w base, G.ps⟩ (st.take base) w := by
  have it := inv.take hb hl
  refine ⟨frozen_mem inv, fun id ob hob => ?_, it.inj, it.lt⟩
  obtain ⟨hid, hob'⟩ := take_some hob
  have h := it.objs id ob hob
  have hl' : id < st.length := by omega
  cases ob with
  | var cells =>
    refine ⟨h.1, ?_⟩
    rcases h.2 with h0 | ⟨b, c, cur, T, e1, e2, e3, e4, e5, e6⟩
    · exact .inl h0
    · exact .inr ⟨b, c, cur, T, e1, e2, e3, e4, fun k v c h1 h2 => (e5 k v c h1 h2).held (frozen_le inv), fun o => (frozen_old inv hid hl' e1 o).trans (e6 o)⟩
  | row mt sz xs =>
    obtain ⟨h1, h2, h3⟩ := h
    refine ⟨h1, h2, ?_⟩
    rcases h3 with h3 | ⟨g, cap, cur, T, fr, e1, e2, e3, e4, e5, e6, e7, e8, e9⟩
    · exact .inl h3
    · refine .inr ⟨g, cap, cur, T, fr, e1, e2, e3, e4, e5, e6, e7, fun k v c h1 h2 => (e8 k v c h1 h2).mono (frozen_le inv), ?_⟩
      have hf := fun o => frozen_old (base := base) inv hid hl' e1 o
      rcases e9 with ⟨a1, a2⟩ | ⟨a1, a2, a3⟩
      · exact .inl ⟨a1, fun o => (hf o).trans (a2 o)⟩
      · exact .inr ⟨a1, fun o ho => (hf o).trans (a2 o ho), fun o ho => (hf o).trans (a3 o ho)⟩
  | iter s pos => exact h
  | dead => trivial

theorem frozen_ext {G0 : Gh} {st0 : St} {w0 : World} (e : Ext st0.length G0 st0 w0 G st w) (inv : Inv G st w) : Ext st0.length G0 st0 w0 ⟨frozen G st w st0.length, G.ps⟩ (st.take st0.length) w where
  mem := Mem.le_trans e.mem (frozen_le inv)
  size := e.size
  len := (e.take (Nat.le_refl _)).len
  kind := fun i ob hob => by
    have := (e.take (Nat.le_refl _)).kind i ob hob
    cases ob <;> exact this
  foreign := fun b hb hn => by
    obtain ⟨h1, h2⟩ := e.foreign b hb hn
    refine ⟨h1, fun o => ?_⟩
    rw [← h2 o]
    show frozen G st w st0.length b o = G.M b o
    unfold frozen
    rw [if_neg]
    rintro ⟨j, cells, c, hj, hs, hq⟩
    rcases e.blocks j (b, c) (List.getElem?_eq_some_iff.1 hs).1 hq with ⟨h3, _⟩ | h3
    · omega
    · simp only at h3; omega
  blocks := (e.take (Nat.le_refl _)).blocks
  age := (e.take (Nat.le_refl _)).age
  os := e.os
  tape := e.tape
  output := e.output
end
end Go.Proofs.Kh
