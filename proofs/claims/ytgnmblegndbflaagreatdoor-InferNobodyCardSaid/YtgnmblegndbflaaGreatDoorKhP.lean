/- Structs and slices that are written out. -/
import Derived.Test.YtgnmblegndbflaaGreatDoorKhO
namespace Go.Proofs.Kh
set_option linter.all false
set_option linter.unusedVariables false
set_option linter.unusedSimpArgs false
open Go
section
variable {P : Program} {tm : Nat} {G : Gh} {st : St} {w : World} {x : AV}

theorem pdL_append : ∀ (as bs : List AV), pdL st (as ++ bs) = (match pdL st as, pdL st bs with | some xs, some ys => some (xs ++ ys) | _, _ => none)
  | [], bs => by simp only [List.nil_append, pdL]; cases pdL st bs <;> rfl
  | a :: as, bs => by
    simp only [List.cons_append, pdL]
    rw [pdL_append as bs]
    cases pd1 st a with
    | none => cases pdL st as <;> cases pdL st bs <;> rfl
    | some p =>
      cases pdL st as with
      | none => cases pdL st bs <;> rfl
      | some xs =>
        cases pdL st bs with
        | none => by_cases hs : p.single = true <;> simp [hs]
        | some ys => by_cases hs : p.single = true <;> simp [hs]

theorem pdL_pds : ∀ ps : List PD, (∀ p, p ∈ ps → p.single = true) → pdL st (ps.map .pd) = some ps
  | [], _ => rfl
  | p :: ps, h => by
    have ih := pdL_pds ps (fun q hq => h q (by simp [hq]))
    have hp := h p (by simp)
    simp [pdL, pd1, ih, hp]

theorem pdL_cells {p : PD} {cs : List AV} (hc : cellsOf x = some cs) (hp : toPD st x = some p) (hs : ∀ c, c ∈ p.cells → c.single = true) : pdL st cs = some p.cells := by
  cases x with
  | agg as =>
    simp only [cellsOf, Option.some.injEq] at hc; subst hc
    simp only [toPD, Option.map_eq_some_iff] at hp
    obtain ⟨ps, h1, rfl⟩ := hp
    exact h1
  | pd y =>
    simp only [toPD, pd1, Option.some.injEq] at hp; subst hp
    cases y with
    | agg ps =>
      simp only [cellsOf, Option.some.injEq] at hc; subst hc
      exact pdL_pds ps hs
    | _ =>
      simp only [cellsOf, Option.some.injEq] at hc; subst hc
      simp [pdL, pd1, PD.cells, PD.single]
  | tup xs => simp [cellsOf] at hc
  | bot => simp [cellsOf] at hc
  | nil =>
    simp only [cellsOf, Option.some.injEq] at hc; subst hc
    simp only [toPD, pd1, Option.some.injEq] at hp; subst hp
    simp [pdL, pd1, PD.cells, PD.single]
  | tight xs =>
    simp only [cellsOf, Option.some.injEq] at hc; subst hc
    simp only [toPD, pd1, Option.some.injEq] at hp; subst hp
    simp [pdL, pd1, PD.cells, PD.single]
  | row id n =>
    simp only [cellsOf, Option.some.injEq] at hc; subst hc
    have h2 : ∃ xs, p = .sl xs := by
      simp only [toPD, pd1] at hp
      split at hp
      · split at hp
        · injection hp with hp; exact ⟨_, hp.symm⟩
        · cases hp
      · cases hp
    obtain ⟨xs, rfl⟩ := h2
    simp only [toPD] at hp
    simp [pdL, hp, PD.cells, PD.single]
  | _ => simp [toPD, pd1] at hp

/-- All cells, one element behind the other. -/
def cellsAll : List AV → Option (List AV)
  | [] => some []
  | x :: r => match cellsOf x, cellsAll r with
    | some a, some b => some (a ++ b)
    | _, _ => none

theorem cellsAll_pd : ∀ (xs : List AV) (ps : List PD), toPDs st xs = some ps → (∀ c, c ∈ flat ps → c.single = true) → (∀ x, x ∈ xs → ∃ cs, cellsOf x = some cs) → ∃ r, cellsAll xs = some r ∧ pdL st r = some (flat ps)
  | [], ps, h, _, _ => by simp only [toPDs, Option.some.injEq] at h; subst h; exact ⟨[], rfl, rfl⟩
  | x :: xs, ps, h, hs, hc => by
    simp only [toPDs] at h
    split at h
    · rename_i p qs hp hq
      injection h with h; subst h
      obtain ⟨cs, hcs⟩ := hc x (by simp)
      obtain ⟨r, r1, r2⟩ := cellsAll_pd xs qs hq (fun c hcc => hs c (by simp only [flat, List.flatMap_cons, List.mem_append] at *; exact .inr hcc)) (fun y hy => hc y (by simp [hy]))
      have h3 := pdL_cells hcs hp (fun c hcc => hs c (by simp only [flat, List.flatMap_cons, List.mem_append]; exact .inl hcc))
      refine ⟨cs ++ r, by simp [cellsAll, hcs, r1], ?_⟩
      rw [pdL_append, h3, r2]
      rfl
    · cases h

theorem toPD_cellsOf {p : PD} (h : toPD st x = some p) : ∃ cs, cellsOf x = some cs := by
  cases x with
  | tup xs => simp [toPD, pd1] at h
  | bot => simp [toPD, pd1] at h
  | pd y => cases y <;> exact ⟨_, rfl⟩
  | _ => exact ⟨_, rfl⟩

theorem toPDs_cellsOf : ∀ (xs : List AV) (ps : List PD), toPDs st xs = some ps → ∀ x, x ∈ xs → ∃ cs, cellsOf x = some cs
  | [], _, _, x, hx => by cases hx
  | y :: ys, ps, h, x, hx => by
    simp only [toPDs] at h
    split at h
    · rename_i p qs hp hq
      cases hx with
      | head => exact toPD_cellsOf hp
      | tail _ hx => exact toPDs_cellsOf ys qs hq x hx
    · cases h

theorem toPDs_length : ∀ (xs : List AV) (ps : List PD), toPDs st xs = some ps → ps.length = xs.length
  | [], ps, h => by simp only [toPDs, Option.some.injEq] at h; subst h; rfl
  | y :: ys, ps, h => by
    simp only [toPDs] at h
    split at h
    · rename_i p qs hp hq
      injection h with h; subst h
      simp [toPDs_length ys qs hq]
    · cases h

theorem toPDs_at : ∀ (xs : List AV) (ps : List PD), toPDs st xs = some ps → ∀ (k : Nat) (x : AV), xs[k]? = some x → ∃ p, ps[k]? = some p ∧ toPD st x = some p
  | [], _, _, k, x, hx => by simp at hx
  | y :: ys, ps, h, k, x, hx => by
    simp only [toPDs] at h
    split at h
    · rename_i p qs hp hq
      injection h with h; subst h
      cases k with
      | zero => simp at hx; subst hx; exact ⟨p, rfl, hp⟩
      | succ k => simp at hx; obtain ⟨q, h1, h2⟩ := toPDs_at ys qs hq k x hx; exact ⟨q, by simpa using h1, h2⟩
    · cases h

theorem cells_len {p : PD} {cs : List AV} (hc : cellsOf x = some cs) (hp : toPD st x = some p) (hs : ∀ c, c ∈ p.cells → c.single = true) : cs.length = p.cells.length := by
  have := pdL_cells hc hp hs
  have h2 : ∀ (l : List AV) (q : List PD), pdL st l = some q → q.length = l.length := by
    intro l
    induction l with
    | nil => intro q h; simp only [pdL, Option.some.injEq] at h; subst h; rfl
    | cons a l ih =>
      intro q h
      simp only [pdL] at h
      split at h
      · split at h
        · injection h with h; subst h; simp [ih _ (by assumption)]
        · cases h
      · cases h
  rw [h2 _ _ this]

/-- Places 0, 1, 2, .. in their order. -/
def seqParts (sz : Nat) : Nat → List AV → List (Nat × Nat × AV)
  | _, [] => []
  | k, x :: r => (k * sz, sz, x) :: seqParts sz (k + 1) r

theorem fillA_seq {sz : Nat} : ∀ (xs : List AV) (k : Nat) (pre rest : List AV), pre.length = k * sz → rest.length = xs.length * sz → (∀ x, x ∈ xs → ∃ cs, cellsOf x = some cs ∧ cs.length = sz) →
    ∃ r, cellsAll xs = some r ∧ fillA (pre ++ rest) (seqParts sz k xs) = some (pre ++ r)
  | [], k, pre, rest, h1, h2, _ => by
    simp at h2; subst h2
    exact ⟨[], rfl, rfl⟩
  | x :: xs, k, pre, rest, h1, h2, h3 => by
    obtain ⟨cs, c1, c2⟩ := h3 x (by simp)
    have h2' : rest.length = sz + xs.length * sz := by rw [h2, List.length_cons, Nat.add_mul]; omega
    obtain ⟨r, r1, r2⟩ := fillA_seq xs (k + 1) (pre ++ cs) (rest.drop sz) (by rw [List.length_append, h1, c2, Nat.add_mul]; omega) (by rw [List.length_drop]; omega) (fun y hy => h3 y (by simp [hy]))
    refine ⟨cs ++ r, by simp [cellsAll, c1, r1], ?_⟩
    simp only [seqParts, fillA, c1]
    rw [if_pos ⟨c2, by rw [List.length_append]; omega⟩]
    have : lay (pre ++ rest) (k * sz) cs = pre ++ cs ++ rest.drop sz := by
      unfold lay
      rw [← h1, List.take_left, List.append_assoc, List.drop_append, c2]
      simp
    rw [this, r2, List.append_assoc]

theorem range_zip {α : Type} : ∀ (l : List (Nat × α)) (k : Nat), l.map (·.1) = List.range' k l.length → ∀ (j i : Nat) (a : α), l[j]? = some (i, a) → i = k + j
  | [], _, _, j, i, a, h => by simp at h
  | (n, b) :: l, k, hl, j, i, a, h => by
    simp only [List.map_cons, List.length_cons, List.range'_succ, List.cons.injEq] at hl
    cases j with
    | zero => simp at h; omega
    | succ j =>
      simp at h
      have := range_zip l (k + 1) hl.2 j i a h
      omega

theorem seqParts_get {sz : Nat} : ∀ (xs : List AV) (k j off n : Nat) (y : AV), (seqParts sz k xs)[j]? = some (off, n, y) → off = (k + j) * sz ∧ n = sz ∧ xs[j]? = some y
  | [], _, j, _, _, _, h => by simp [seqParts] at h
  | x :: xs, k, j, off, n, y, h => by
    cases j with
    | zero => simp [seqParts] at h; obtain ⟨rfl, rfl, rfl⟩ := h; exact ⟨by simp, rfl, rfl⟩
    | succ j =>
      simp only [seqParts, List.getElem?_cons_succ] at h
      obtain ⟨a, b, c⟩ := seqParts_get xs (k + 1) j off n y h
      exact ⟨by rw [a]; congr 1; omega, b, by simpa using c⟩

theorem seqParts_length {sz : Nat} : ∀ (xs : List AV) (k : Nat), (seqParts sz k xs).length = xs.length
  | [], _ => rfl
  | x :: xs, k => by simp [seqParts, seqParts_length xs]

/-- The cells of a slice that is written out. -/
theorem bsl_cells (inv : Inv G st w) {t e len sz : Nat} {parts : Array (Nat × Value)} {xs : List AV} {ps : List PD} {zs : List PD} (ht : P.underlying t = some (.slice e)) (hsz : sizeT P e = some sz) (hz : zeroOf P e = some zs)
    (hidx : parts.toList.map (·.1) = List.range len) (hle : len * sz ≤ 16777216) (hl : xs.length = len) (hr : ∀ (k : Nat) (i : Nat) (v : Value) (y : AV), parts.toList[k]? = some (i, v) → xs[k]? = some y → RelV G st v y)
    (hp : toPDs st xs = some ps) (hs : sized sz ps = true) :
    ∃ cur : Array Value, (Instr.buildSlice t len parts).run P w = .ok (.slice (some ⟨w.heap.size, 0, none⟩) len len) (w.alloc (.cells cur e)) ∧ cur.size = len * sz ∧ (∀ (k : Nat) (v : Value), cur[k]? = some v → oneCell v = true) ∧
      ∀ (k : Nat) (v : Value) (c : PD), cur[k]? = some v → (flat ps)[k]? = some c → RelP G.M v c := by
  obtain ⟨i, z, h1, h2, h3, h4⟩ := zeroOf_some hz
  obtain ⟨i', hi', hsz'⟩ := sizeT_some hsz
  rw [h1] at hi'; injection hi' with hi'; subst hi'
  obtain ⟨e1, e2, e3⟩ := pdVs_rel G.M _ _ h3
  have hzc : z.cells.size = sz := by simp at e1; omega
  obtain ⟨s1, s2⟩ := sized_spec hs
  have hcells : ∀ x, x ∈ xs → ∃ cs, cellsOf x = some cs ∧ cs.length = sz := fun x hx => by
    obtain ⟨k, hk, e⟩ := List.getElem_of_mem hx
    obtain ⟨p, q1, q2⟩ := toPDs_at xs ps hp k x (by simp [hk, e])
    obtain ⟨cs, hcs⟩ := toPD_cellsOf q2
    have hpm := List.mem_of_getElem? q1
    exact ⟨cs, hcs, by rw [cells_len hcs q2 (fun c hc => s2 c (by simp only [flat, List.mem_flatMap]; exact ⟨p, hpm, hc⟩)), s1 p hpm]⟩
  obtain ⟨r, r1, r2⟩ := fillA_seq (sz := sz) xs 0 [] (List.replicate (len * sz) .bot) (by simp) (by simp [hl]) hcells
  obtain ⟨r', r1', r3⟩ := cellsAll_pd xs ps hp s2 (toPDs_cellsOf xs ps hp)
  rw [r1] at r1'; injection r1' with r1'; subst r1'
  have hplen : parts.toList.length = len := by
    have := congrArg List.length hidx
    simpa using this
  have hzero : ∀ init : Array Value, init.size = len * sz → (∀ (k : Nat) (v : Value), init[k]? = some v → oneCell v = true) → ∃ cur, Instr.fill (fun i => some (i * sz, sz)) init parts.toList = some cur ∧ RelV G st (.agg cur) (.agg r) := by
    intro init hinit hone
    refine fill_rel parts.toList (seqParts sz 0 xs) init (List.replicate (len * sz) .bot) r (by rw [seqParts_length, hplen, hl]) (fun k i v off n y a b => ?_) (by simpa using hinit) hone
      (fun k v c hv hc => ?_) (by simpa using r2)
    · obtain ⟨b1, b2, b3⟩ := seqParts_get xs 0 k off n y b
      have : i = 0 + k := range_zip parts.toList 0 (by rw [hidx, hplen, List.range_eq_range']) k i v a
      subst this
      exact ⟨by rw [b1, b2], hr k _ v y a b3⟩
    · have : c = .bot := by
        rw [List.getElem?_replicate] at hc
        split at hc
        · injection hc with hc; exact hc.symm
        · cases hc
      rw [this]; exact .bot v
  have fin : ∀ (init zz : Array Value), init.size = len * sz → (∀ (k : Nat) (v : Value), init[k]? = some v → oneCell v = true) →
      ((len * sz = 0 ∧ zz = #[]) ∨ (len * sz ≠ 0 ∧ zz = z.cells)) → ((Array.range (len * sz)).map (zz[· % zz.size]!) = init) →
      ∃ cur : Array Value, (Instr.buildSlice t len parts).run P w = .ok (.slice (some ⟨w.heap.size, 0, none⟩) len len) (w.alloc (.cells cur e)) ∧ cur.size = len * sz ∧ (∀ (k : Nat) (v : Value), cur[k]? = some v → oneCell v = true) ∧
      ∀ (k : Nat) (v : Value) (c : PD), cur[k]? = some v → (flat ps)[k]? = some c → RelP G.M v c := by
    intro init zz hinit hone hrz heq
    obtain ⟨cur, f1, f2⟩ := hzero init hinit hone
    obtain ⟨vs, g1, g2, g3, g4⟩ := f2.agg_inv
    injection g1 with g1; subst g1
    refine ⟨cur, ?_, ?_, g3, fun k v c hv hc => ?_⟩
    · unfold Instr.buildSlice
      simp only [Sem.run_bind, run_underlying ht, Result.andThen_ok, run_sizeT hsz]
      rw [if_neg (by omega)]
      rcases hrz with ⟨h0, rfl⟩ | ⟨h0, rfl⟩
      · rw [if_pos h0]
        simp only [Sem.run_bind, Sem.run_pure, Result.andThen_ok, heq, f1, run_newRow]
      · rw [if_neg h0]
        simp only [Sem.run_bind, run_zero h1 h2, Sem.run_pure, Result.andThen_ok, heq, f1, run_newRow]
    · have hfl := flat_length ps s1
      have : r.length = (flat ps).length := by
        have h2 : ∀ (l : List AV) (q : List PD), pdL st l = some q → q.length = l.length := by
          intro l
          induction l with
          | nil => intro q h; simp only [pdL, Option.some.injEq] at h; subst h; rfl
          | cons a l ih =>
            intro q h
            simp only [pdL] at h
            split at h
            · split at h
              · injection h with h; subst h; simp [ih _ (by assumption)]
              · cases h
            · cases h
        exact (h2 _ _ r3).symm
      rw [g2, this, hfl, toPDs_length xs ps hp, hl]
    · obtain ⟨q1, q2, q3⟩ := pdL_rel inv r (flat ps) r3
      have hk : k < r.length := by have := (List.getElem?_eq_some_iff.1 hc).1; omega
      exact q3 k v r[k] c (by simp [hk]) hc (g4 k v r[k] hv (by simp [hk]))
  by_cases h0 : len * sz = 0
  · refine fin _ #[] ?_ ?_ (.inl ⟨h0, rfl⟩) rfl
    · simp
    · intro k v hv
      rw [h0] at hv
      simp at hv
  · refine fin _ z.cells ?_ ?_ (.inr ⟨h0, rfl⟩) rfl
    · simp
    · intro k v hv
      simp only [Array.getElem?_map, Option.map_eq_some_iff] at hv
      obtain ⟨j, hj, rfl⟩ := hv
      have hp0 : 0 < z.cells.size := by
        rcases Nat.eq_zero_or_pos z.cells.size with h | h
        · rw [hzc] at h; rw [h] at h0; simp at h0
        · exact h
      have hm := Nat.mod_lt j hp0
      refine pdVs_one (M := G.M) h3 (j % z.cells.size) _ ?_
      simp [hm]
end
end Go.Proofs.Kh
