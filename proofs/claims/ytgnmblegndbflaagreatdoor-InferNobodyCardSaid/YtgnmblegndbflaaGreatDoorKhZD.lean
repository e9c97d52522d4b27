/- Regions whose order is drawn: one more is carried out. -/
import Derived.Test.YtgnmblegndbflaaGreatDoorKhZC
namespace Go.Proofs.Kh
set_option linter.all false
set_option linter.unusedVariables false
set_option linter.unusedSimpArgs false
open Go

theorem chks_spec (anc : Nat) : ∀ (acc : List DI) (m : Nat) (l : List AO), chks anc acc m = some l → ∀ (pre : List DI) (d : DI) (post : List DI), acc = pre ++ d :: post → Nat.testBit anc d.i = false → d.ao.op.still = false →
    d.ao ∈ l ∧ (d.wr &&& d.rd = 0) ∧ ∀ s, (Nat.testBit d.rd s = true ∨ Nat.testBit d.wr s = true) → Nat.testBit m s = false ∧ ∀ d', d' ∈ pre → Nat.testBit d'.wr s = false
  | [], _, _, _, pre, _, _, h, _, _ => by cases pre <;> simp at h
  | e :: r, m, l, hc, pre, d, post, h, ha, hs => by
    simp only [chks] at hc
    split at hc
    · cases hc
    · rename_i l' hl'
      cases pre with
      | nil =>
        simp at h
        obtain ⟨rfl, rfl⟩ := h
        rw [if_neg (by simp [ha, hs])] at hc
        split at hc
        · rename_i hz
          injection hc with hc; subst hc
          refine ⟨by simp, hz.2, fun s hb => ⟨?_, fun _ h => by cases h⟩⟩
          cases hm : Nat.testBit m s with
          | false => rfl
          | true =>
            have := and_zero hz.1 hm
            rw [Nat.testBit_or, Bool.or_eq_false_iff] at this
            rcases hb with hb | hb
            · rw [hb] at this; cases this.1
            · rw [hb] at this; cases this.2
        · cases hc
      | cons p pre =>
        simp at h
        obtain ⟨rfl, rfl⟩ := h
        obtain ⟨h1, h2, h3⟩ := chks_spec anc _ _ _ hl' pre d post rfl ha hs
        have hsub : ∀ x, x ∈ l' → x ∈ l := by
          intro x hx
          split at hc
          · injection hc with hc; subst hc; exact hx
          · split at hc
            · injection hc with hc; subst hc; simp [hx]
            · cases hc
        refine ⟨hsub _ h1, h2, fun s hb => ?_⟩
        obtain ⟨h4, h5⟩ := h3 s hb
        rw [Nat.testBit_or, Bool.or_eq_false_iff] at h4
        refine ⟨h4.1, fun d' hd' => ?_⟩
        cases hd' with
        | head => exact h4.2
        | tail _ hd' => exact h5 d' hd'

theorem again_spec {call : CallF} {ly : Ly} {st : St} : ∀ (l : List AO), again call ly st l → ∀ o, o ∈ l → wants ly o.gd = some true → ∃ x, o.op.run call ly st = some (.ret x, st) ∧ ∀ d, o.dst = some d → Ly.get ly d = some x
  | [], _, _, ho, _ => by cases ho
  | p :: r, h, o, ho, hw => by
    obtain ⟨h1, h2⟩ := h
    cases ho with
    | head =>
      rw [hw] at h1
      exact h1
    | tail _ ho => exact again_spec r h2 o ho hw

theorem top_lyN {call : CallF} {T : List TE} {ly : Ly} {st : St} (ht : Tra call T ly st) (p : Nat) : Ly.top (lyN T ly p) = Ly.top ly := (endL_marks (T.take p) ly st (ht.take T ly st p)).2.2.1

section
variable {P : Program} {h : Hints} {N : Nat} {ops : Array Oper} {dl : List DI} {call : CallF} {T : List TE} {rest : List DI} {ly : Ly} {st : St} {listed : Array Bool}
variable {ds : List Deferred} {G0 : Gh} {st0 : St} {w0 : World} {a : Act} {w : World} {q : Nat} {G : Gh}

theorem rev_split {dl : List DI} {p c : Nat} {d : DI} (hd : dl[p]? = some d) (hpc : p < c) : ∃ pre post, (dl.take c).reverse ++ [] = pre ++ d :: post ∧ ∀ j d', dl[j]? = some d' → p < j → j < c → d' ∈ pre := by
  have hlt : p < dl.length := (List.getElem?_eq_some_iff.1 hd).1
  have hlt2 : p < (dl.take c).length := by rw [List.length_take]; omega
  have hget : (dl.take c)[p] = d := by
    rw [List.getElem_take]
    rw [List.getElem?_eq_getElem hlt] at hd
    injection hd
  refine ⟨((dl.take c).drop (p + 1)).reverse, ((dl.take c).take p).reverse, ?_, fun j d' hj h1 h2 => ?_⟩
  · have h3 : dl.take c = (dl.take c).take p ++ d :: (dl.take c).drop (p + 1) := by
      rw [← hget, ← List.drop_eq_getElem_cons hlt2, List.take_append_drop]
    rw [List.append_nil]
    conv => lhs; rw [h3]
    simp
  · rw [List.mem_reverse]
    refine List.mem_of_getElem? (i := j - (p + 1)) ?_
    rw [List.getElem?_drop, List.getElem?_take, if_pos (by omega), show p + 1 + (j - (p + 1)) = j by omega]
    exact hj

/-- What doesn't change anything comes to the same, or to what was looked at again, wherever it may come. -/
theorem gives (hg : Good P h N ops [] dl) (hT : dl = T.map TE.d ++ rest) (ht : Tra call T ly st) {p : Nat} {te : TE} (hp : T[p]? = some te) (hc : te.d.chg = false) (hw : te.w = true) : ∀ (q : Nat), p + 1 ≤ q → q ≤ T.length →
    (∀ (c : Nat) (tc : TE), T[c]? = some tc → p < c → c < q → tc.d.chg = true → Nat.testBit tc.d.anc te.d.i = false) →
    ∃ x, te.d.ao.op.run call te.ly (stN T st q) = some (.ret x, stN T st q) ∧ ∀ (G : Gh) (s : St) (w : World) (v : Value), Inv G s w → RelV G s v x → ∀ d y, te.d.ao.dst = some d → Ly.get te.out d = some y → RelV G s v y := by
  obtain ⟨g1, g2, g3, g4, g5⟩ := trace_at T ly st ht p te hp
  have hst := g1.keep hc
  have hon := g1.on hw
  rw [hst] at hon
  have base : ∀ (G : Gh) (s : St) (w : World) (v : Value), Inv G s w → RelV G s v te.x → ∀ d y, te.d.ao.dst = some d → Ly.get te.out d = some y → RelV G s v y := by
    intro G s w v inv hr d y hd hy
    unfold TE.out at hy
    rw [hd] at hy
    exact put_none inv hr hy
  intro q hq
  induction q with
  | zero => omega
  | succ q ih =>
    intro hle hcs
    by_cases he : q = p
    · subst he
      exact ⟨te.x, by rw [g5, hst]; exact hon, base⟩
    · have hqT : q < T.length := by omega
      obtain ⟨tq, htq⟩ : ∃ tq, T[q]? = some tq := ⟨T[q], List.getElem?_eq_getElem hqT⟩
      obtain ⟨k1, k2, k3, k4, k5⟩ := trace_at T ly st ht q tq htq
      have ih' := ih (by omega) (by omega) fun c tc h1 h2 h3 => hcs c tc h1 h2 (by omega)
      by_cases hs : tq.st' = tq.st
      · rw [k5, hs, ← k3]; exact ih'
      · have hcq : tq.d.chg = true := by
          cases hcc : tq.d.chg with
          | true => rfl
          | false => exact (hs (k1.keep hcc)).elim
        have hwq : tq.w = true := by
          cases hcc : tq.w with
          | true => rfl
          | false => exact (hs (k1.off hcc).2).elim
        have hag := k1.chk hcq hwq
        have hna := hcs q tq htq (by omega) (by omega) hcq
        cases hstl : te.d.ao.op.still with
        | true => exact ⟨te.x, still_run hstl hon _, base⟩
        | false =>
          obtain ⟨oq, hckq⟩ := hg.at dl [] q tq.d (dl_of hT htq)
          obtain ⟨op, hckp⟩ := hg.at dl [] p te.d (dl_of hT hp)
          obtain ⟨pre, post, e1, e2⟩ := rev_split (dl_of hT hp) (show p < q by omega)
          obtain ⟨m1, m2, m3⟩ := chks_spec _ _ _ _ (hckq.chk hcq) pre te.d post e1 hna hstl
          have bits : ∀ s, s ∈ te.d.ao.slots ∨ te.d.ao.dst = some s → ∀ j tj, T[j]? = some tj → p < j → j < q + 1 → tj.d.ao.dst ≠ some s := by
            intro s hsl j tj hj h1 h2 hdj
            have hb : Nat.testBit te.d.rd s = true ∨ Nat.testBit te.d.wr s = true := by
              rcases hsl with hsl | hsl
              · exact .inl (by rw [hckp.rd]; exact (testBit_maskOf s _).2 hsl)
              · exact .inr (by rw [hckp.wr]; exact (testBit_maskOf s te.d.ao.dst.toList).2 (by rw [hsl]; simp))
            obtain ⟨oj, hckj⟩ := hg.at dl [] j tj.d (dl_of hT hj)
            have hbj : Nat.testBit tj.d.wr s = true := by rw [hckj.wr]; exact (testBit_maskOf s tj.d.ao.dst.toList).2 (by rw [hdj]; simp)
            obtain ⟨b1, b2⟩ := m3 s hb
            by_cases hjq : j = q
            · subst hjq
              rw [htq] at hj; injection hj with hj; subst hj
              rw [hbj] at b1; cases b1
            · rw [b2 tj.d (e2 j tj.d (dl_of hT hj) h1 (by omega))] at hbj; cases hbj
          have self : ∀ s, s ∈ te.d.ao.slots → te.d.ao.dst ≠ some s := by
            intro s hsl hd
            have h1 : Nat.testBit te.d.wr s = true := by rw [hckp.wr]; exact (testBit_maskOf s te.d.ao.dst.toList).2 (by rw [hd]; simp)
            have := and_zero m2 h1
            rw [hckp.rd, (testBit_maskOf s _).2 hsl] at this; cases this
          have same : ∀ s, s ∈ te.d.ao.slots → Ly.get tq.out s = Ly.get te.ly s := by
            intro s hsl
            rw [← k4, ← g2]
            refine (lyN_flat ht (q + 1) (by omega) fun j tj hj h1 h2 => ?_).symm
            by_cases hjp : j = p
            · subst hjp
              rw [hp] at hj; injection hj with hj; subst hj
              exact self s hsl
            · exact bits s (.inl hsl) j tj hj (by omega) h2
          have htop : Ly.top tq.out = Ly.top te.ly := by rw [← k4, ← g2, top_lyN ht, top_lyN ht]
          have hwant : wants tq.out te.d.ao.gd = some true := by
            rw [← hw, ← g1.wants]
            cases hgd : te.d.ao.gd with
            | none => rfl
            | some g =>
              obtain ⟨s, b⟩ := g
              simp only [wants]
              rw [same s (by simp [AO.slots, hgd])]
          obtain ⟨x, r1, r2⟩ := again_spec _ hag _ m1 hwant
          refine ⟨x, ?_, fun G s w v inv hr d y hd hy => ?_⟩
          · rw [k5, ← r1]
            refine AOp.run_congr _ htop.symm fun z hz => ?_
            cases z with
            | c y => rfl
            | t s =>
              simp only [Opd.ev]
              exact (same s (by simp only [AO.slots, List.mem_append, List.mem_filterMap]; exact .inl ⟨.t s, hz, rfl⟩)).symm
          · have h1 := r2 d hd
            rw [← k4] at h1
            rw [← g4] at hy
            rw [lyN_flat ht (q + 1) (by omega) fun j tj hj h2 h3 => bits d (.inr hd) j tj hj (by omega) h3, h1] at hy
            injection hy with hy; subst hy
            exact hr
end
end Go.Proofs.Kh
