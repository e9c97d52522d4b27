/- Regions whose order is drawn: whatever order is drawn, it comes to what the order carried out here comes to. -/
import Derived.Test.YtgnmblegndbflaaGreatDoorKhZB
namespace Go.Proofs.Kh
set_option linter.all false
set_option linter.unusedVariables false
set_option linter.unusedSimpArgs false
open Go

def On (listed : Array Bool) (i : Nat) : Prop := listed.getD i false = true

def Dep (listed : Array Bool) (o : Oper) : Prop := ∀ e, e ∈ o.after → Region.binds .any e = true → On listed e.on

theorem toPD_none {st : St} {x : AV} {p : PD} (h : toPD [] x = some p) : toPD st x = some p := by
  have one : ∀ (x : AV) (p : PD), pd1 [] x = some p → pd1 st x = some p := by
    intro x p h
    cases x <;> simp [pd1] at h ⊢ <;> first | exact h | skip
  have lst : ∀ (xs : List AV) (ps : List PD), pdL [] xs = some ps → pdL st xs = some ps := by
    intro xs
    induction xs with
    | nil => intro ps h; simpa [pdL] using h
    | cons x r ih =>
      intro ps h
      simp only [pdL] at h ⊢
      split at h
      · rename_i y ys hy hys
        rw [one _ _ hy, ih _ hys]
        exact h
      · cases h
  cases x with
  | agg cs =>
    simp only [toPD, Option.map_eq_some_iff] at h ⊢
    obtain ⟨ps, h1, h2⟩ := h
    exact ⟨ps, lst _ _ h1, h2⟩
  | _ => simp only [toPD] at h ⊢; exact one _ _ h

theorem older_none {G : Gh} {st : St} {w : World} {v : Value} {x : AV} (inv : Inv G st w) (h : RelV G st v x) (m : Nat) : RelV G st v (older [] m x) := by
  unfold older
  split
  · exact h
  · unfold firm
    split
    · rename_i p hp; exact .pd _ _ (toPD_rel inv h (toPD_none hp))
    · exact h

theorem put_none {G : Gh} {st : St} {w : World} {v : Value} {x y : AV} {ly : Ly} {d : Nat} (inv : Inv G st w) (h : RelV G st v x) (hy : Ly.get (lyPut [] ly d x) d = some y) : RelV G st v y :=
  lyPut_self (fun y => RelV G st v y) [] (fun m _ hz => (older_none inv hz m).clip m) ly d x y h hy

section
variable {P : Program} {h : Hints} {N : Nat} {ops : Array Oper} {dl : List DI} {call : CallF} {T : List TE} {rest : List DI} {ly : Ly} {st : St} {listed : Array Bool}

def Closed (ops : Array Oper) (listed : Array Bool) : Prop := ∀ i o, ops[i]? = some o → On listed i → Dep listed o

theorem mem_take_rev {dl : List DI} {p : Nat} {d : DI} (h : d ∈ (dl.take p).reverse ++ []) : ∃ q, q < p ∧ dl[q]? = some d := by
  simp only [List.append_nil, List.mem_reverse] at h
  obtain ⟨q, hq, e⟩ := List.getElem_of_mem h
  rw [List.length_take] at hq
  exact ⟨q, by omega, by rw [List.getElem_take] at e; rw [List.getElem?_eq_getElem (by omega), e]⟩

theorem take_rev_mem {dl : List DI} {p q : Nat} {d : DI} (h : dl[q]? = some d) (hq : q < p) : d ∈ (dl.take p).reverse ++ [] := by
  simp only [List.append_nil, List.mem_reverse]
  exact List.mem_of_getElem? (i := q) (by rw [List.getElem?_take, if_pos hq]; exact h)

theorem anc_on (hg : Good P h N ops [] dl) (hc : Closed ops listed) : ∀ (p : Nat) (d : DI) (o : Oper), dl[p]? = some d → ops[d.i]? = some o → Dep listed o → ∀ k, Nat.testBit d.anc k = true → On listed k := by
  intro p
  induction p using Nat.strongRecOn with
  | _ p ih =>
    intro d o hd ho hdep k hk
    obtain ⟨o', hck⟩ := hg.at dl [] p d hd
    have : o' = o := by have := hck.op; rw [ho] at this; injection this with this; exact this.symm
    subst this
    obtain ⟨e, h1, h2, h3⟩ := ancOf_bit _ _ _ hck.anc k hk
    have hon := hdep e (by simpa using h1) h2
    rcases h3 with h3 | ⟨d', h4, h5, h6⟩
    · rw [← h3]; exact hon
    · obtain ⟨q, hq, hdq⟩ := mem_take_rev h4
      obtain ⟨o2, hck2⟩ := hg.at dl [] q d' hdq
      exact ih q hq d' o2 hdq hck2.op (hc _ _ hck2.op (by rw [h5]; exact hon)) k h6

/-- Of two, the one before: it comes before in every order, or the two have nothing to do with each other and it changes nothing. -/
theorem pair_of (hg : Good P h N ops [] dl) {p q : Nat} {d d' : DI} (hd : dl[p]? = some d) (hd' : dl[q]? = some d') (hpq : p < q) :
    d.i ≠ d'.i ∧ (Nat.testBit d'.anc d.i = true ∨ (d.chg = false ∧ (∀ s, d.ao.dst = some s → s ∉ d'.ao.slots ∧ d'.ao.dst ≠ some s) ∧ ∀ s, d'.ao.dst = some s → s ∉ d.ao.slots)) := by
  obtain ⟨o, hck⟩ := hg.at dl [] p d hd
  obtain ⟨o', hck'⟩ := hg.at dl [] q d' hd'
  obtain ⟨h1, h2⟩ := hck'.pair d (take_rev_mem hd hpq)
  refine ⟨h1, ?_⟩
  simp only [pairOK, Bool.or_eq_true, Bool.and_eq_true, beq_iff_eq, Bool.not_eq_true'] at h2
  rcases h2 with h2 | ⟨⟨h2, h3⟩, h4⟩
  · exact .inl h2
  · refine .inr ⟨h4, fun s hs => ?_, fun s hs => ?_⟩
    · have hb : Nat.testBit d.wr s = true := by rw [hck.wr, testBit_maskOf]; simp [hs]
      have := and_zero h2 hb
      rw [Nat.testBit_or, Bool.or_eq_false_iff, hck'.rd, hck'.wr] at this
      refine ⟨fun hm => ?_, fun hm => ?_⟩
      · rw [(testBit_maskOf s _).2 hm] at this; cases this.1
      · rw [(testBit_maskOf s d'.ao.dst.toList).2 (by rw [hm]; simp)] at this; cases this.2
    · have hb : Nat.testBit d'.wr s = true := by rw [hck'.wr, testBit_maskOf]; simp [hs]
      have := and_zero h3 hb
      rw [hck.rd] at this
      intro hm
      rw [(testBit_maskOf s _).2 hm] at this; cases this

/-- Not listed, but it may come now: what has to do with it and lies before is listed; what lies behind isn't. -/
structure Now (ops : Array Oper) (listed : Array Bool) (d : DI) (o : Oper) : Prop where
  op : ops[d.i]? = some o
  off : ¬ On listed d.i
  dep : Dep listed o

theorem Now.before (hg : Good P h N ops [] dl) (hc : Closed ops listed) {p q : Nat} {d d' : DI} {o : Oper} (hn : Now ops listed d o) (hd : dl[p]? = some d) (hd' : dl[q]? = some d') (hq : q < p) (hr : Nat.testBit d.anc d'.i = true) : On listed d'.i :=
  anc_on hg hc p d o hd hn.op hn.dep _ hr

theorem Now.behind (hg : Good P h N ops [] dl) (hc : Closed ops listed) {q : Nat} {d d' : DI} {o : Oper} (hn : Now ops listed d o) (hd' : dl[q]? = some d') (hr : Nat.testBit d'.anc d.i = true) : ¬ On listed d'.i := by
  intro hon
  obtain ⟨o', hck'⟩ := hg.at dl [] q d' hd'
  exact hn.off (anc_on hg hc q d' o' hd' hck'.op (hc _ _ hck'.op hon) _ hr)

structure JJ (ops : Array Oper) (N : Nat) (ds : List Deferred) (G0 : Gh) (st0 : St) (w0 : World) (T : List TE) (ly : Ly) (st : St) (listed : Array Bool) (a : Act) (w : World) (q : Nat) (G : Gh) : Prop where
  lsize : listed.size = ops.size
  closed : Closed ops listed
  sub : ∀ i, On listed i → ∃ (p : Nat) (te : TE), T[p]? = some te ∧ te.d.i = i
  chg : ∀ (p : Nat) (te : TE), T[p]? = some te → te.d.chg = true → (On listed te.d.i ↔ p < q)
  qle : q ≤ T.length
  env : ∀ s r, r ≤ T.length → (∀ (p : Nat) (te : TE), T[p]? = some te → te.d.ao.dst = some s → (p < r ↔ On listed te.d.i)) → ∀ x, Ly.get (lyN T ly r) s = some x → ∃ v, a.tmps[s]? = some v ∧ RelV G (stN T st q) v x
  inv : Inv G (stN T st q) w
  asize : a.tmps.size = N
  defers : a.defers = ds
  low : ∀ k e, (k, e) ∈ ly → Low (stN T st q) k ∧ k ≤ (stN T st q).length ∧ st0.length ≤ k
  tops : ∀ k e, (k, e) ∈ ly → k ≤ Ly.top ly
  ne : ly ≠ []
  ext : Ext st0.length G0 st0 w0 G (stN T st q) w

theorem dl_of (hT : dl = T.map TE.d ++ rest) {p : Nat} {te : TE} (hp : T[p]? = some te) : dl[p]? = some te.d := by
  have hlt : p < T.length := (List.getElem?_eq_some_iff.1 hp).1
  rw [hT, List.getElem?_append_left (by simpa using hlt), List.getElem?_map, hp]; rfl

variable {ds : List Deferred} {G0 : Gh} {st0 : St} {w0 : World} {a : Act} {w : World} {q : Nat} {G : Gh}

/-- What it looks at is what it looked at. -/
theorem JJ.envOn (hg : Good P h N ops [] dl) (hT : dl = T.map TE.d ++ rest) (J : JJ ops N ds G0 st0 w0 T ly st listed a w q G) {p : Nat} {d : DI} {o : Oper} (hd : dl[p]? = some d) (hple : p ≤ T.length) (hn : Now ops listed d o) :
    EnvOn d.ao.slots G (stN T st q) a (lyN T ly p) := by
  intro s x hs hx
  refine J.env s p hple (fun p' te' hp' hdst => ?_) x hx
  have hd' := dl_of hT hp'
  constructor
  · intro hlt
    rcases (pair_of hg hd' hd hlt).2 with h1 | ⟨_, h1, _⟩
    · exact hn.before hg J.closed hd hd' hlt h1
    · exact ((h1 s hdst).1 hs).elim
  · intro hon
    rcases Nat.lt_trichotomy p' p with h1 | h1 | h1
    · exact h1
    · subst h1
      rw [hd'] at hd; injection hd with hd
      exact (hn.off (hd ▸ hon)).elim
    · rcases (pair_of hg hd hd' h1).2 with h2 | ⟨_, _, h2⟩
      · exact ((hn.behind hg J.closed hd' h2) hon).elim
      · exact ((h2 s hdst) hs).elim

/-- Where it stands, if it changes anything. -/
theorem JJ.here (hg : Good P h N ops [] dl) (hT : dl = T.map TE.d ++ rest) (ht : Tra call T ly st) (J : JJ ops N ds G0 st0 w0 T ly st listed a w q G) {p : Nat} {d : DI} {o : Oper} (hd : dl[p]? = some d) (hple : p ≤ T.length) (hn : Now ops listed d o) (hc : d.chg = true) :
    stN T st q = stN T st p ∧ ∀ (p' : Nat) (te' : TE), T[p']? = some te' → te'.d.chg = true → (p' < q ↔ p' < p) := by
  have key : ∀ (p' : Nat) (te' : TE), T[p']? = some te' → te'.d.chg = true → (p' < q ↔ p' < p) := by
    intro p' te' hp' hc'
    rw [← J.chg p' te' hp' hc']
    have hd' := dl_of hT hp'
    constructor
    · intro hon
      rcases Nat.lt_trichotomy p' p with h1 | h1 | h1
      · exact h1
      · subst h1
        rw [hd'] at hd; injection hd with hd
        exact (hn.off (hd ▸ hon)).elim
      · rcases (pair_of hg hd hd' h1).2 with h2 | ⟨h2, _⟩
        · exact ((hn.behind hg J.closed hd' h2) hon).elim
        · rw [hc] at h2; cases h2
    · intro hlt
      rcases (pair_of hg hd' hd hlt).2 with h1 | ⟨h1, _⟩
      · exact hn.before hg J.closed hd hd' hlt h1
      · rw [hc'] at h1; cases h1
  refine ⟨?_, key⟩
  rcases Nat.le_total q p with h1 | h1
  · refine stN_flat ht p h1 fun p' te' hp' h2 h3 => ?_
    cases hcc : te'.d.chg with
    | false => rfl
    | true => exact absurd ((key p' te' hp' hcc).2 h3) (by omega)
  · refine (stN_flat ht q h1 fun p' te' hp' h2 h3 => ?_).symm
    cases hcc : te'.d.chg with
    | false => rfl
    | true => exact absurd ((key p' te' hp' hcc).1 h3) (by omega)
end
end Go.Proofs.Kh
