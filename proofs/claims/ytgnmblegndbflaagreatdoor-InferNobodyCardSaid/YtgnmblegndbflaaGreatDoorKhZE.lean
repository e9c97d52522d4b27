/- Regions whose order is drawn: the region as a whole. -/
import Derived.Test.YtgnmblegndbflaaGreatDoorKhZD
namespace Go.Proofs.Kh
set_option linter.all false
set_option linter.unusedVariables false
set_option linter.unusedSimpArgs false
open Go

section
variable {P : Program} {h : Hints} {N : Nat} {ops : Array Oper} {dl : List DI} {call : CallF} {T : List TE} {rest : List DI} {ly : Ly} {st : St} {listed : Array Bool}
variable {ds : List Deferred} {G0 : Gh} {st0 : St} {w0 : World} {a : Act} {w : World} {q : Nat} {G : Gh}

theorem on_set {i j : Nat} (hi : i < listed.size) : On (listed.setIfInBounds i true) j ↔ j = i ∨ On listed j := by
  unfold On
  by_cases hj : j = i
  · subst hj
    simp [hi]
  · simp only [Array.getD_eq_getD_getElem?]
    rw [Array.getElem?_setIfInBounds_ne (fun e => hj e.symm)]
    simp [hj]

theorem dep_set {i : Nat} (hi : i < listed.size) {o : Oper} (hd : Dep listed o) : Dep (listed.setIfInBounds i true) o := fun e he hb => (on_set hi).2 (.inr (hd e he hb))

theorem JJ.more (hg : Good P h N ops [] dl) (hT : dl = T.map TE.d ++ rest) (ht : Tra call T ly st) (J : JJ ops N ds G0 st0 w0 T ly st listed a w q G) {p : Nat} {te : TE} {o : Oper} (hp : T[p]? = some te) (hn : Now ops listed te.d o)
    {v : Value} {q' : Nat} {G' : Gh} {w' : World} (hq : q' ≤ T.length) (hchg : ∀ (p' : Nat) (te' : TE), T[p']? = some te' → te'.d.chg = true → ((te'.d.i = te.d.i ∨ On listed te'.d.i) ↔ p' < q'))
    (hv : ∀ d y, te.d.ao.dst = some d → Ly.get te.out d = some y → RelV G' (stN T st q') v y) (inv : Inv G' (stN T st q') w') (e : Ext (Ly.top ly) G (stN T st q) w G' (stN T st q') w') :
    JJ ops N ds G0 st0 w0 T ly st (listed.setIfInBounds te.d.i true) (a.put te.d.ao.dst v) w' q' G' := by
  obtain ⟨o', hck⟩ := hg.at dl [] p te.d (dl_of hT hp)
  obtain ⟨n1, n2, n3, n4⟩ := normAO_inv hck.norm
  have hi : te.d.i < listed.size := by rw [J.lsize]; exact (Array.getElem?_eq_some_iff.1 hn.op).1
  have hoo : o' = o := by have := hck.op; rw [hn.op] at this; injection this with this; exact this.symm
  subst hoo
  have htop : st0.length ≤ Ly.top ly := by
    cases hly : ly with
    | nil => exact absurd hly J.ne
    | cons pr r =>
      obtain ⟨k, e⟩ := pr
      exact (J.low k e (by rw [hly]; simp)).2.2
  refine ⟨by simpa using J.lsize, fun i oi hoi hon => ?_, fun i hon => ?_, fun p' te' hp' hc => ?_, hq, fun s r hr hsep x hx => ?_, inv, ?_, ?_, fun k e' hk => ?_, J.tops, J.ne, J.ext.trans (e.weaken htop)⟩
  · rcases (on_set hi).1 hon with h1 | h1
    · subst h1
      rw [hn.op] at hoi; injection hoi with hoi; subst hoi
      exact dep_set hi hn.dep
    · exact dep_set hi (J.closed i oi hoi h1)
  · rcases (on_set hi).1 hon with h1 | h1
    · exact ⟨p, te, hp, h1.symm⟩
    · exact J.sub i h1
  · rw [on_set hi]; exact hchg p' te' hp' hc
  · obtain ⟨g1, g2, g3, g4, g5⟩ := trace_at T ly st ht p te hp
    by_cases hs : te.d.ao.dst = some s
    · have hsN : s < N := n4 s (by rw [← n3]; exact hs)
      have hpr : p < r := (hsep p te hp hs).2 ((on_set hi).2 (.inl rfl))
      have hflat : Ly.get (lyN T ly (p + 1)) s = Ly.get (lyN T ly r) s := by
        refine lyN_flat ht r hpr fun p' te' hp' h1 h2 hdst => ?_
        have hon := (hsep p' te' hp' hdst).1 h2
        obtain ⟨e1, e2⟩ := pair_of hg (dl_of hT hp) (dl_of hT hp') (show p < p' by omega)
        rcases (on_set hi).1 hon with h3 | h3
        · exact e1 h3.symm
        · rcases e2 with e2 | ⟨_, e2, _⟩
          · exact hn.behind hg J.closed (dl_of hT hp') e2 h3
          · exact (e2 s hs).2 hdst
      rw [← hflat, g4] at hx
      refine ⟨v, ?_, hv s x hs hx⟩
      rw [hs]
      simp [Act.put, J.asize, hsN]
    · obtain ⟨u, h1, h2⟩ := J.env s r hr (fun p' te' hp' hdst => by
        rw [hsep p' te' hp' hdst, on_set hi]
        constructor
        · rintro (h3 | h3)
          · exfalso
            rcases Nat.lt_trichotomy p' p with h4 | h4 | h4
            · exact (pair_of hg (dl_of hT hp') (dl_of hT hp) h4).1 h3
            · subst h4
              rw [hp] at hp'; injection hp' with hp'; subst hp'
              exact hs hdst
            · exact (pair_of hg (dl_of hT hp) (dl_of hT hp') h4).1 h3.symm
          · exact h3
        · exact .inr) x hx
      refine ⟨u, ?_, h2.ext e⟩
      cases hd : te.d.ao.dst with
      | none => exact h1
      | some d =>
        rw [hd] at hs
        simp only [Act.put]
        rw [Array.getElem?_setIfInBounds_ne (fun e => hs (by rw [e]))]
        exact h1
  · cases te.d.ao.dst <;> simpa [Act.put] using J.asize
  · cases te.d.ao.dst <;> simpa [Act.put] using J.defers
  · obtain ⟨h1, h2, h3⟩ := J.low k e' hk
    exact ⟨e.age k (J.tops k e' hk) h1, Nat.le_trans h2 e.len, h3⟩

theorem JJ.step (hcall : CallOK P call) (hplain : CallPlain P call) {Q : Exit → Act → World → Prop} {K : Act → World → Prop} (hg : Good P h N ops [] dl) (hT : dl = T.map TE.d ++ rest) (ht : Tra call T ly st) (J : JJ ops N ds G0 st0 w0 T ly st listed a w q G)
    {p : Nat} {te : TE} {o : Oper} (hp : T[p]? = some te) (hn : Now ops listed te.d o) (hK : ∀ a' w' q' G', JJ ops N ds G0 st0 w0 T ly st (listed.setIfInBounds te.d.i true) a' w' q' G' → K a' w') : wpOp P ops Q te.d.i K a w := by
  obtain ⟨g1, g2, g3, g4, g5⟩ := trace_at T ly st ht p te hp
  have hlt : p < T.length := (List.getElem?_eq_some_iff.1 hp).1
  obtain ⟨o', hck⟩ := hg.at dl [] p te.d (dl_of hT hp)
  have hoo : o' = o := by have := hck.op; rw [hn.op] at this; injection this with this; exact this.symm
  subst hoo
  obtain ⟨n1, n2, n3, n4⟩ := normAO_inv hck.norm
  have henv := J.envOn hg hT (dl_of hT hp) (by omega) hn
  rw [g2] at henv
  have hwr := wanted_rel hck.norm henv g1.wants
  have htm : Ly.top te.ly ≤ (stN T st q).length := by
    rw [← g2, top_lyN ht]
    cases hly : ly with
    | nil => exact absurd hly J.ne
    | cons pr r =>
      obtain ⟨k, e⟩ := pr
      exact (J.low k e (by rw [hly]; simp)).2.1
  have htop : Ly.top te.ly = Ly.top ly := by rw [← g2, top_lyN ht]
  -- where it stands behind it
  have chgT : te.d.chg = true → stN T st q = te.st ∧ p + 1 ≤ T.length ∧ ∀ (p' : Nat) (te' : TE), T[p']? = some te' → te'.d.chg = true → ((te'.d.i = te.d.i ∨ On listed te'.d.i) ↔ p' < p + 1) := by
    intro hc
    obtain ⟨h1, h2⟩ := J.here hg hT ht (dl_of hT hp) (by omega) hn hc
    refine ⟨by rw [h1, g3], by omega, fun p' te' hp' hc' => ?_⟩
    rw [J.chg p' te' hp' hc', h2 p' te' hp' hc']
    constructor
    · rintro (h3 | h3)
      · rcases Nat.lt_trichotomy p' p with h4 | h4 | h4
        · omega
        · omega
        · exact ((pair_of hg (dl_of hT hp) (dl_of hT hp') h4).1 h3.symm).elim
      · omega
    · intro h3
      by_cases h4 : p' = p
      · subst h4
        rw [hp] at hp'; injection hp' with hp'; subst hp'
        exact .inl rfl
      · exact .inr (by omega)
  have chgF : te.d.chg = false → ∀ (p' : Nat) (te' : TE), T[p']? = some te' → te'.d.chg = true → ((te'.d.i = te.d.i ∨ On listed te'.d.i) ↔ p' < q) := by
    intro hc p' te' hp' hc'
    rw [← J.chg p' te' hp' hc']
    constructor
    · rintro (h3 | h3)
      · exfalso
        rcases Nat.lt_trichotomy p' p with h4 | h4 | h4
        · exact (pair_of hg (dl_of hT hp') (dl_of hT hp) h4).1 h3
        · subst h4
          rw [hp] at hp'; injection hp' with hp'; subst hp'
          rw [hc] at hc'; cases hc'
        · exact (pair_of hg (dl_of hT hp) (dl_of hT hp') h4).1 h3.symm
      · exact h3
    · exact .inr
  unfold wpOp
  simp only [hn.op, hwr]
  cases hw : te.w with
  | false =>
    simp only [Bool.false_eq_true, if_false]
    obtain ⟨x1, x2⟩ := g1.off hw
    have hrel : ∀ (G : Gh) (s : St) (w : World), Inv G s w → ∀ d y, te.d.ao.dst = some d → Ly.get te.out d = some y → RelV G s undef y := by
      intro G s w inv d y hd hy
      unfold TE.out at hy
      rw [hd, x1] at hy
      exact put_none inv (.tup #[] [] rfl fun k v c h => by simp at h) hy
    rw [← n3]
    cases hc : te.d.chg with
    | true =>
      obtain ⟨c1, c2, c3⟩ := chgT hc
      have hs : stN T st (p + 1) = stN T st q := by rw [g5, x2, c1]
      exact hK _ _ (p + 1) G (J.more hg hT ht hp hn c2 c3 (by rw [hs]; exact hrel G _ w J.inv) (by rw [hs]; exact J.inv) (by rw [hs]; exact Ext.refl _ _ _ _))
    | false => exact hK _ _ q G (J.more hg hT ht hp hn J.qle (chgF hc) (hrel G _ w J.inv) J.inv (Ext.refl _ _ _ _))
  | true =>
    simp only [if_true]
    refine .inl ?_
    cases hc : te.d.chg with
    | true =>
      obtain ⟨c1, c2, c3⟩ := chgT hc
      have hrun := g1.on hw
      rw [← c1] at hrun
      refine op_on hcall hplain hck.norm henv J.inv htm hrun ⟨fun x hx v G' w' r1 r2 r3 => ?_, fun p hx => by cases hx⟩
      injection hx with hx; subst hx
      rw [← n3]
      refine hK _ _ (p + 1) G' (J.more hg hT ht hp hn c2 c3 (fun d y hd hy => ?_) (by rw [g5]; exact r2) (by rw [g5, ← htop]; exact r3))
      rw [g5]
      unfold TE.out at hy
      rw [hd] at hy
      exact put_none r2 r1 hy
    | false =>
      have hx : ∃ x, te.d.ao.op.run call te.ly (stN T st q) = some (.ret x, stN T st q) ∧ ∀ (G : Gh) (s : St) (w : World) (v : Value), Inv G s w → RelV G s v x → ∀ d y, te.d.ao.dst = some d → Ly.get te.out d = some y → RelV G s v y := by
        have hnot : ∀ (c : Nat) (tc : TE), T[c]? = some tc → p < c → c < q → tc.d.chg = true → Nat.testBit tc.d.anc te.d.i = false := by
          intro c tc hcT h1 h2 h3
          cases hb : Nat.testBit tc.d.anc te.d.i with
          | false => rfl
          | true => exact ((hn.behind hg J.closed (dl_of hT hcT) hb) ((J.chg c tc hcT h3).2 h2)).elim
        rcases Nat.lt_or_ge p q with h1 | h1
        · exact gives hg hT ht hp hc hw q h1 J.qle hnot
        · obtain ⟨x, y1, y2⟩ := gives hg hT ht hp hc hw (p + 1) (Nat.le_refl _) hlt (fun c tc _ h2 h3 => by omega)
          have hs : stN T st q = stN T st (p + 1) := by
            refine stN_flat ht (p + 1) (by omega) fun p' te' hp' h2 h3 => ?_
            cases hcc : te'.d.chg with
            | false => rfl
            | true =>
              have hne : p' ≠ p := fun e => by
                subst e
                rw [hp] at hp'; injection hp' with hp'; subst hp'
                rw [hc] at hcc; cases hcc
              rcases (pair_of hg (dl_of hT hp') (dl_of hT hp) (show p' < p by omega)).2 with h4 | ⟨h4, _⟩
              · have h5 := hn.before hg J.closed (dl_of hT hp) (dl_of hT hp') (by omega) h4
                have := (J.chg p' te' hp' hcc).1 h5
                omega
              · rw [hcc] at h4; cases h4
          rw [hs]
          exact ⟨x, y1, y2⟩
      obtain ⟨x, hrun, hgive⟩ := hx
      refine op_on hcall hplain hck.norm henv J.inv htm hrun ⟨fun x' hx v G' w' r1 r2 r3 => ?_, fun p hx => by cases hx⟩
      injection hx with hx; subst hx
      rw [← n3]
      exact hK _ _ q G' (J.more hg hT ht hp hn J.qle (chgF hc) (hgive G' _ w' v r2 r1) r2 (by rw [← htop]; exact r3))
end
end Go.Proofs.Kh
