/- Slices as they lie in memory; append. -/
import Derived.Test.YtgnmblegndbflaaGreatDoorKhI
import Derived.Deep.AppendSrc
namespace Go.Proofs.Kh
set_option linter.all false
set_option linter.unusedVariables false
set_option linter.unusedSimpArgs false
open Go
section
variable {P : Program} {tm : Nat} {G : Gh} {st : St} {w : World} {x : AV}

/-- A slice that is known, in memory. -/
structure SlAt (G : Gh) (w : World) (v : Value) (xs : List PD) where
  b : Nat
  o : Nat
  cap : Nat
  sz : Nat
  f : Nat → Value
  hv : v = .slice (some ⟨b, o, none⟩) xs.length cap
  hc : xs.length ≤ cap
  hm : cap ≤ maxLen
  hw : ∀ x, x ∈ xs → x.cells.length = sz
  hs : ∀ c, c ∈ flat xs → c.single = true
  hcell : ∀ k, k < (flat xs).length → w.cell? ⟨b, o + k, none⟩ = some (f k)
  hr : ∀ (k : Nat) (c : PD), (flat xs)[k]? = some c → RelP G.M (f k) c

theorem slAt_pd (inv : Inv G st w) {v : Value} {xs : List PD} (h : RelP G.M v (.sl xs)) : (v = .slice none 0 0 ∧ xs = []) ∨ Nonempty (SlAt G w v xs) := by
  cases h with
  | slnil => exact .inl ⟨rfl, rfl⟩
  | sl b o cap sz _ vf hc hm hw hs hM hr => exact .inr ⟨⟨b, o, cap, sz, vf, rfl, hc, hm, hw, hs, fun k hk => inv.mem _ _ _ (hM k hk), hr⟩⟩

theorem slAt_row (inv : Inv G st w) {v : Value} {id n sz : Nat} {mt : Bool} {xs : List PD} (h : RelV G st v (.row id n)) (hs : st[id]? = some (.row mt sz xs)) (hn : xs.length = n) :
    (v = .slice none 0 0 ∧ xs = [] ∧ G.ps id = none) ∨ ∃ s : SlAt G w v xs, s.o = 0 ∧ G.ps id = some (s.b, s.cap) := by
  cases h with
  | row _ _ _ hi ho hx =>
    have hh := (hx _ _ _ hs).2 hn
    obtain ⟨h1, h2, h3⟩ := inv.objs id _ hs
    rcases h3 with ⟨h3, h4⟩ | ⟨g, cap, cur, T, fr, e1, e2, ef, e3, e4, e5, e6, e7, e8⟩
    · unfold Hdr at hh; rw [h3] at hh
      exact .inl ⟨hh.1, h4, h3⟩
    · unfold Hdr at hh; rw [e1] at hh
      simp only at hh
      subst hh; subst hn
      have hfl := flat_length xs h1
      have hle : xs.length * sz ≤ cap * sz := Nat.mul_le_mul_right _ e4
      refine .inr ⟨⟨g, 0, cap, sz, fun k => cur.getD k undef, rfl, e4, e5, h1, h2, fun k hk => ?_, fun k c hc => ?_⟩, rfl, e1⟩
      · rw [Nat.zero_add, cell_of_row w g k cur T _ e2]
        have : k < cur.size := by omega
        simp [this]
      · have hk : k < (flat xs).length := (List.getElem?_eq_some_iff.1 hc).1
        have : k < cur.size := by omega
        exact e7 k _ c (by simp [this]) hc

theorem slAt (inv : Inv G st w) {v : Value} {xs : List PD} (h : RelV G st v x) (he : elems st x = some xs) : (v = .slice none 0 0 ∧ xs = []) ∨ Nonempty (SlAt G w v xs) := by
  cases x with
  | pd y =>
    cases y with
    | sl ys => simp only [elems, Option.some.injEq] at he; subst he; exact slAt_pd inv h.pd_inv
    | _ => simp [elems] at he
  | nil => simp only [elems, Option.some.injEq] at he; subst he; cases h; exact .inl ⟨rfl, rfl⟩
  | tight ys => simp only [elems, Option.some.injEq] at he; subst he; cases h with | tight a n _ h => exact slAt_pd inv h
  | row id n =>
    simp only [elems] at he
    split at he
    · rename_i mt sz ys hs
      split at he
      · rename_i hn
        injection he with he; subst he
        rcases slAt_row inv h hs hn with ⟨a, b, _⟩ | ⟨s, _⟩
        · exact .inl ⟨a, b⟩
        · exact .inr ⟨s⟩
      · cases he
    · cases he
  | _ => simp [elems] at he

theorem slAt_len (inv : Inv G st w) {v : Value} {xs : List PD} (h : RelV G st v x) (he : elems st x = some xs) : ∃ a cap, v = .slice a xs.length cap ∧ xs.length ≤ cap ∧ cap ≤ maxLen := by
  rcases slAt inv h he with ⟨rfl, rfl⟩ | ⟨⟨s⟩⟩
  · exact ⟨none, 0, rfl, Nat.le_refl _, Nat.zero_le _⟩
  · exact ⟨_, _, s.hv, s.hc, s.hm⟩

/-- The cells of a slice as a list. -/
theorem SlAt.cells {v : Value} {xs : List PD} (s : SlAt G w v xs) : ∃ news : List Value, news.length = (flat xs).length ∧ (∀ j u, news[j]? = some u → w.cell? ((⟨s.b, s.o, none⟩ : Addr).add j) = some u) ∧ (∀ u, u ∈ news → u.oneCell' = true) ∧
    ∀ (k : Nat) (u : Value) (c : PD), news[k]? = some u → (flat xs)[k]? = some c → RelP G.M u c := by
  refine ⟨(List.range (flat xs).length).map s.f, by simp, fun j u hu => ?_, fun u hu => ?_, fun k u c hu hc => ?_⟩
  · have hj : j < (flat xs).length := by have := (List.getElem?_eq_some_iff.1 hu).1; simpa using this
    have e : (⟨s.b, s.o, none⟩ : Addr).add j = ⟨s.b, s.o + j, none⟩ := by unfold Addr.add; split <;> simp_all
    have : u = s.f j := by simp [hj] at hu; exact hu.symm
    rw [e, this]; exact s.hcell j hj
  · obtain ⟨k, hk, e⟩ := List.getElem_of_mem hu
    simp only [List.length_map, List.length_range] at hk
    simp only [List.getElem_map, List.getElem_range] at e
    rw [← e, ← oneCell_eq]
    exact (s.hr k (flat xs)[k] (by simp [hk])).oneCell (s.hs _ (by simp))
  · have hk : k < (flat xs).length := (List.getElem?_eq_some_iff.1 hc).1
    have : u = s.f k := by simp [hk] at hu; exact hu.symm
    rw [this]; exact s.hr k c hc

theorem flat_bytes : ∀ s : List UInt8, flat (s.map fun b => PD.int .u8 b.toNat) = s.map fun b => PD.int .u8 b.toNat
  | [] => rfl
  | b :: s => by
    have ih := flat_bytes s
    unfold flat at *
    rw [List.map_cons, List.flatMap_cons, ih]
    rfl

theorem sized_width {sz sz' : Nat} {xs : List PD} (h : sized sz xs = true) (hn : xs ≠ []) (hw : ∀ x, x ∈ xs → x.cells.length = sz') : sz' = sz := by
  cases xs with
  | nil => exact (hn rfl).elim
  | cons y ys => rw [← hw y (by simp), (sized_spec h).1 y (by simp)]

/-- What is put behind, as the model's append looks at it. -/
theorem src_of (inv : Inv G st w) {v : Value} {ys : List PD} {tx : TypeId} {sz : Nat} (hk : (∃ e', P.underlying tx = some (.slice e')) ∨ P.underlying tx = some .string) (h : RelV G st v x) (ht : tail st x = some ys) (hz : sized sz ys = true) (hn : ys ≠ []) :
    ∃ news : List Value, Src P sz tx v ys.length news w ∧ ∀ (k : Nat) (u : Value) (c : PD), news[k]? = some u → (flat ys)[k]? = some c → RelP G.M u c := by
  by_cases hstr : ∃ s, x = .pd (.str s)
  · obtain ⟨s, rfl⟩ := hstr
    simp only [tail, Option.some.injEq] at ht; subst ht
    have hv := h.pd_inv.str_inv
    subst hv
    have h1 : (1 : Nat) = sz := by
      refine sized_width hz hn (fun y hy => ?_)
      obtain ⟨b, _, rfl⟩ := List.mem_map.1 hy
      rfl
    subst h1
    have hfl : flat (s.map fun b => PD.int .u8 b.toNat) = s.map fun b => PD.int .u8 b.toNat := by
      exact flat_bytes s
    refine ⟨byteCells ⟨s.toArray⟩, ⟨hk, fun _ => by simp [Builtin.lenOf, ByteArray.size], ?_, ?_, ?_, fun u hu => ?_⟩, fun k u c hu hc => ?_⟩
    · have := firstCells_string (P := P) ⟨s.toArray⟩ w
      simpa [ByteArray.size] using this
    · have := firstCells_string (P := P) ⟨s.toArray⟩ w.drew
      simpa [ByteArray.size] using this
    · rw [byteCells_length, List.length_map, Nat.mul_one]; simp [ByteArray.size]
    · obtain ⟨_, _, rfl⟩ := List.mem_map.1 hu
      rfl
    · rw [hfl] at hc
      simp only [byteCells, List.getElem?_map, Option.map_eq_some_iff] at hu
      simp only [List.getElem?_map, Option.map_eq_some_iff] at hc
      obtain ⟨a, ha, rfl⟩ := hu
      obtain ⟨b, hb, rfl⟩ := hc
      have ha' : s[k]? = some a := ha
      rw [ha'] at hb; injection hb with hb; subst hb
      exact .int _ _
  · have he : elems st x = some ys := by
      cases x with
      | pd y =>
        cases y with
        | str s => exact (hstr ⟨s, rfl⟩).elim
        | _ => exact ht
      | _ => exact ht
    rcases slAt inv h he with ⟨_, rfl⟩ | ⟨⟨s⟩⟩
    · exact (hn rfl).elim
    · have hsz := sized_width hz hn s.hw
      obtain ⟨news, n1, n2, n3, n4⟩ := s.cells
      have hfl := flat_length ys (sized_spec hz).1
      rw [s.hv]
      refine ⟨news, ⟨hk, fun _ => rfl, run_firstCells_some w sz ys.length _ _ _ news (by omega) n2, run_firstCells_some w.drew sz ys.length _ _ _ news (by omega) (by simpa using n2), by omega, n3⟩, n4⟩

theorem run_app_room {t tx ty e : TypeId} {i : TypeInfo} (ht : P.underlying t = some (.slice e)) (hi : P.info? e = some i) {g sLen sCap n : Nat} {T : TypeId} {fr : Nat × Nat} {cur : Array Value} {v : Value} {news : List Value}
    (hs : Src P i.size tx v n news w) (hroom : sLen + n ≤ sCap) (hg : w.heap[g]? = some (.cells cur T fr)) (hf : okFr cur.size fr) (hfit : sLen * i.size + news.length ≤ cur.size) :
    (Builtin.append_ #[t, tx] ty #[.slice (some ⟨g, 0, none⟩) sLen sCap, v]).run P w =
      .ok (.slice (some ⟨g, 0, none⟩) (sLen + n) sCap) (w.setRow g (cur.toList.take (sLen * i.size) ++ news ++ cur.toList.drop (sLen * i.size + news.length)).toArray) := by
  have hst := storeCells_fr (P := P) g (sLen * i.size) T fr news 0 cur w hg hf (by simpa using hfit) hs.one
  simp only [Nat.add_zero] at hst
  rcases hs.kind with ⟨e', hk⟩ | hk <;> simp [Builtin.append_, run_underlying ht, run_underlying hk, sizeOf, typeInfo, hi, hs.len, hroom, hs.cells, Addr.add_lit, hst]

/-- Nothing is put behind. -/
theorem run_app_none {t tx ty e : TypeId} {i : TypeInfo} (hk : (∃ e', P.underlying tx = some (.slice e')) ∨ P.underlying tx = some .string) (ht : P.underlying t = some (.slice e)) (hi : P.info? e = some i) {a : Option Addr} {n cap : Nat} (hc : n ≤ cap) {v : Value}
    (hl : (Builtin.lenOf v).run P w = .ok 0 w) (hf : (Builtin.firstCells i.size 0 v).run P w = .ok #[] w) :
    (Builtin.append_ #[t, tx] ty #[.slice a n cap, v]).run P w = .ok (.slice a n cap) w := by
  rcases hk with ⟨e', hk⟩ | hk <;> cases a <;> simp [Builtin.append_, run_underlying ht, run_underlying hk, sizeOf, typeInfo, hi, hl, hc, hf, storeCells]

theorem zeroCells_get (z : Array Value) (n : Nat) (hz : ∀ (k : Nat) (v : Value), z[k]? = some v → oneCell v = true) (k : Nat) (v : Value) (h : (Builtin.zeroCells z n)[k]? = some v) : oneCell v = true := by
  unfold Builtin.zeroCells at h
  simp only [Array.getElem?_map, Option.map_eq_some_iff] at h
  obtain ⟨j, hj, rfl⟩ := h
  have hj2 : j < n * z.size := by
    have := Array.getElem?_eq_some_iff.1 hj
    obtain ⟨a, b⟩ := this
    simp at a b
    omega
  have hp : 0 < z.size := by
    rcases Nat.eq_zero_or_pos z.size with h0 | h0
    · rw [h0] at hj2; simp at hj2
    · exact h0
  have hm := Nat.mod_lt j hp
  refine hz (j % z.size) _ ?_
  simp [hm]
end
end Go.Proofs.Kh
