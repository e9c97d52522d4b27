/- What the machine's helpers tell of the model's values. -/
import Derived.Test.YtgnmblegndbflaaGreatDoorKhD
namespace Go.Proofs.Kh
set_option linter.all false
set_option linter.unusedVariables false
set_option linter.unusedSimpArgs false
open Go

theorem flat_length {sz : Nat} : ∀ xs : List PD, (∀ x, x ∈ xs → x.cells.length = sz) → (flat xs).length = xs.length * sz
  | [], _ => by simp [flat]
  | x :: xs, h => by
    have ih := flat_length xs (fun y hy => h y (by simp [hy]))
    unfold flat at *
    rw [List.flatMap_cons, List.length_append, h x (by simp), ih]
    simp [Nat.add_mul, Nat.add_comm]

theorem flat_append (xs ys : List PD) : flat (xs ++ ys) = flat xs ++ flat ys := by simp [flat]

/-- The cells of an element, among all. -/
theorem flat_at {sz : Nat} : ∀ (xs : List PD), (∀ x, x ∈ xs → x.cells.length = sz) → ∀ (i : Nat) (x : PD), xs[i]? = some x → ∀ (j : Nat), j < sz → (flat xs)[i * sz + j]? = x.cells[j]?
  | [], _, i, x, h, j, hj => by simp at h
  | y :: xs, hw, i, x, h, j, hj => by
    unfold flat
    rw [List.flatMap_cons]
    have hy := hw y (by simp)
    cases i with
    | zero =>
      simp at h; subst h
      rw [Nat.zero_mul, Nat.zero_add, List.getElem?_append_left (by omega)]
    | succ i =>
      simp at h
      have ih := flat_at xs (fun z hz => hw z (by simp [hz])) i x h j hj
      rw [List.getElem?_append_right (by rw [hy, Nat.add_mul]; omega)]
      rw [← ih]
      unfold flat
      congr 1
      rw [hy, Nat.add_mul]
      omega

theorem sized_spec {sz : Nat} {xs : List PD} (h : sized sz xs = true) : (∀ x, x ∈ xs → x.cells.length = sz) ∧ ∀ c, c ∈ flat xs → c.single = true := by
  simp only [sized, List.all_eq_true, Bool.and_eq_true, beq_iff_eq] at h
  refine ⟨fun x hx => (h x hx).1, fun c hc => ?_⟩
  simp only [flat, List.mem_flatMap] at hc
  obtain ⟨x, hx, hc⟩ := hc
  exact (h x hx).2 c hc

theorem allPD_some : ∀ (cs : List AV) (ps : List PD), allPD cs = some ps → cs = ps.map .pd ∧ ∀ p, p ∈ ps → p.single = true
  | [], ps, h => by simp only [allPD, Option.some.injEq] at h; subst h; simp
  | c :: r, ps, h => by
    cases c with
    | pd x =>
      simp only [allPD] at h
      split at h
      · rename_i xs hxs
        split at h
        · rename_i hx
          injection h with h; subst h
          obtain ⟨e1, e2⟩ := allPD_some r xs hxs
          refine ⟨by rw [e1]; rfl, fun p hp => ?_⟩
          cases hp with
          | head => exact hx
          | tail _ hp => exact e2 p hp
        · cases h
      · cases h
    | _ => simp [allPD] at h

section
variable {G : Gh} {st : St} {w : World} {v : Value}

theorem RelV.pd_inv {x : PD} (h : RelV G st v (.pd x)) : RelP G.M v x := by cases h; assumption
theorem RelV.agg_inv {cs : List AV} (h : RelV G st v (.agg cs)) : ∃ vs : Array Value, v = .agg vs ∧ vs.size = cs.length ∧ (∀ (k : Nat) (v : Value), vs[k]? = some v → oneCell v = true) ∧
    ∀ (k : Nat) (v : Value) (c : AV), vs[k]? = some v → cs[k]? = some c → RelV G st v c := by
  cases h with | agg vs _ hl ho hr => exact ⟨vs, rfl, hl, ho, hr⟩

theorem mkAgg_rel {cs : List AV} (h : RelV G st v (.agg cs)) : RelV G st v (mkAgg cs) := by
  unfold mkAgg
  split
  · rename_i ps hps
    obtain ⟨e1, e2⟩ := allPD_some cs ps hps
    obtain ⟨vs, rfl, hl, ho, hr⟩ := h.agg_inv
    subst e1
    refine .pd _ _ (.agg vs ps (by simpa using hl) e2 fun k u c hu hc => ?_)
    exact (hr k u (.pd c) hu (by simp [hc])).pd_inv
  · exact h

/-- A slice whose row is known to hold still. -/
theorem row_rel (inv : Inv G st w) {id n sz : Nat} {xs : List PD} (h : RelV G st v (.row id n)) (hs : st[id]? = some (.row false sz xs)) (hn : xs.length = n) : RelP G.M v (.sl xs) := by
  cases h with
  | row _ _ _ hi ho hx =>
    have hh := (hx _ _ _ hs).2 hn
    obtain ⟨h1, h2, h3⟩ := inv.objs id _ hs
    rcases h3 with ⟨h3, h4⟩ | ⟨g, cap, cur, T, fr, e1, e2, ef, e3, e4, e5, e6, e7, e8⟩
    · unfold Hdr at hh; rw [h3] at hh
      obtain ⟨rfl, _⟩ := hh
      subst h4; exact .slnil
    · unfold Hdr at hh; rw [e1] at hh
      simp only at hh
      subst hh; subst hn
      rcases e8 with ⟨a1, _⟩ | ⟨_, a2, _⟩
      · cases a1
      · have hfl : (flat xs).length = xs.length * sz := flat_length xs h1
        have hle : xs.length * sz ≤ cap * sz := Nat.mul_le_mul_right _ e4
        refine .sl g 0 cap sz xs (fun k => cur.getD k undef) e4 e5 h1 h2 ?_ ?_
        · intro k hk
          rw [Nat.zero_add, a2 k hk]
          have : k < cur.size := by omega
          simp [this]
        · intro k c hc
          have hk : k < (flat xs).length := (List.getElem?_eq_some_iff.1 hc).1
          have : k < cur.size := by omega
          exact e7 k _ c (by simp [this]) hc

theorem pd1_rel (inv : Inv G st w) {x : AV} {p : PD} (h : RelV G st v x) (hp : pd1 st x = some p) : RelP G.M v p := by
  cases x with
  | pd y => simp only [pd1, Option.some.injEq] at hp; subst hp; exact h.pd_inv
  | nil => simp only [pd1, Option.some.injEq] at hp; subst hp; cases h; exact .slnil
  | tight xs => simp only [pd1, Option.some.injEq] at hp; subst hp; cases h; assumption
  | row id n =>
    simp only [pd1] at hp
    split at hp
    · rename_i sz xs hs
      split at hp
      · rename_i hn
        injection hp with hp; subst hp
        exact row_rel inv h hs hn
      · cases hp
    · cases hp
  | _ => simp [pd1] at hp

theorem pdL_rel (inv : Inv G st w) : ∀ (cs : List AV) (ps : List PD), pdL st cs = some ps → ps.length = cs.length ∧ (∀ p, p ∈ ps → p.single = true) ∧ ∀ (k : Nat) (u : Value) (c : AV) (p : PD), cs[k]? = some c → ps[k]? = some p → RelV G st u c → RelP G.M u p
  | [], ps, h => by simp only [pdL, Option.some.injEq] at h; subst h; simp
  | c :: r, ps, h => by
    simp only [pdL] at h
    split at h
    · rename_i x xs hx hxs
      split at h
      · rename_i hsx
        injection h with h; subst h
        obtain ⟨e1, e2, e3⟩ := pdL_rel inv r xs hxs
        refine ⟨by simp [e1], fun p hp => ?_, fun k u c' p hc hp hr => ?_⟩
        · cases hp with
          | head => exact hsx
          | tail _ hp => exact e2 p hp
        · cases k with
          | zero => simp at hc hp; subst hc; subst hp; exact pd1_rel inv hr hx
          | succ k => simp at hc hp; exact e3 k u c' p hc hp hr
      · cases h
    · cases h

theorem toPD_rel (inv : Inv G st w) {x : AV} {p : PD} (h : RelV G st v x) (hp : toPD st x = some p) : RelP G.M v p := by
  cases x with
  | agg cs =>
    simp only [toPD, Option.map_eq_some_iff] at hp
    obtain ⟨ps, hps, rfl⟩ := hp
    obtain ⟨vs, rfl, hl, ho, hr⟩ := h.agg_inv
    obtain ⟨e1, e2, e3⟩ := pdL_rel inv cs ps hps
    refine .agg vs ps (by omega) e2 fun k u c hu hc => ?_
    have hk : k < cs.length := by have := (List.getElem?_eq_some_iff.1 hc).1; omega
    exact e3 k u cs[k] c (by simp [hk]) hc (hr k u cs[k] hu (by simp [hk]))
  | _ => exact pd1_rel inv h hp

theorem firm_rel (inv : Inv G st w) {x : AV} (h : RelV G st v x) : RelV G st v (firm st x) := by
  unfold firm
  split
  · rename_i p hp; exact .pd _ _ (toPD_rel inv h hp)
  · exact h

theorem older_rel (inv : Inv G st w) {x : AV} (h : RelV G st v x) (m : Nat) : RelV G st v (older st m x) := by
  unfold older
  split
  · exact h
  · exact firm_rel inv h

theorem aged_rel (inv : Inv G st w) {x : AV} (h : RelV G st v x) (tm id : Nat) : RelV G st v (aged st tm id x) := by
  unfold aged
  split
  · exact h
  · exact (older_rel inv h _).clip _

def solo : AV → Bool
  | .pd (.agg _) => false
  | .agg _ => false
  | .tup _ => false
  | .bot => false
  | _ => true

theorem cellsOf_solo {x : AV} (hx : solo x = true) : cellsOf x = some [x] := by
  cases x with
  | pd y => cases y <;> first | rfl | (simp [solo] at hx)
  | _ => first | rfl | (simp [solo] at hx)

theorem RelV.one {x : AV} (h : RelV G st v x) (hx : solo x = true) : oneCell v = true := by
  cases h with
  | pd v x hp =>
    cases x with
    | agg cs => simp [solo] at hx
    | _ => exact hp.oneCell rfl
  | agg vs cs hl ho hr => simp [solo] at hx
  | tup vs cs hl hr => simp [solo] at hx
  | bot v => simp [solo] at hx
  | row id n v hi ho hx => exact ho
  | rp id n i off v hi ho hx => exact ho
  | _ => rfl

theorem cellsOf_rel {x : AV} {cs : List AV} (h : RelV G st v x) (hc : cellsOf x = some cs) : v.cells.size = cs.length ∧ (∀ (k : Nat) (u : Value), v.cells[k]? = some u → oneCell u = true) ∧
    ∀ (k : Nat) (u : Value) (c : AV), v.cells[k]? = some u → cs[k]? = some c → RelV G st u c := by
  by_cases hx : solo x = true
  · rw [cellsOf_solo hx] at hc; injection hc with hc; subst hc
    have h1 := h.one hx
    rw [oneCell_cells h1]
    refine ⟨rfl, fun k u hu => ?_, fun k u c hu hc => ?_⟩
    · cases k with
      | zero => simp at hu; subst hu; exact h1
      | succ k => simp at hu
    · cases k with
      | zero => simp at hu hc; subst hu; subst hc; exact h
      | succ k => simp at hu
  · cases x with
    | pd y =>
      cases y with
      | agg ps =>
        simp only [cellsOf, Option.some.injEq] at hc; subst hc
        obtain ⟨vs, rfl, hl, hs, hr⟩ := h.pd_inv.agg_inv
        refine ⟨by simpa [Value.cells] using hl, fun k u hu => ?_, fun k u c hu hc => ?_⟩
        · simp only [Value.cells] at hu
          have hk : k < ps.length := by have := (Array.getElem?_eq_some_iff.1 hu).1; omega
          exact (hr k u ps[k] hu (by simp [hk])).oneCell (hs _ (by simp))
        · simp only [Value.cells] at hu
          simp only [List.getElem?_map, Option.map_eq_some_iff] at hc
          obtain ⟨c', hc', rfl⟩ := hc
          exact .pd _ _ (hr k u c' hu hc')
      | _ => exact absurd rfl hx
    | agg cs' =>
      simp only [cellsOf, Option.some.injEq] at hc; subst hc
      obtain ⟨vs, rfl, hl, ho, hr⟩ := h.agg_inv
      exact ⟨hl, ho, hr⟩
    | tup xs => simp [cellsOf] at hc
    | bot => simp [cellsOf] at hc
    | _ => exact absurd rfl hx
end

end Go.Proofs.Kh
