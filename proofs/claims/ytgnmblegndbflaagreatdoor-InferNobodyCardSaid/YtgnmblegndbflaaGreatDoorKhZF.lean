/- Regions whose order is drawn: what they come to. -/
import Derived.Test.YtgnmblegndbflaaGreatDoorKhZE
namespace Go.Proofs.Kh
set_option linter.all false
set_option linter.unusedVariables false
set_option linter.unusedSimpArgs false
open Go

/-- Where a piece of code lands. -/
def Lands (N : Nat) (ds : List Deferred) (G0 : Gh) (st0 : St) (w0 : World) (Q : Exit → Act → World → Prop) (x : AX) (ly : Ly) (st : St) : Prop :=
  match x with
  | .norm => ∀ G a w, Fr N ds G0 st0 w0 G st w a ly → Q .normal a w
  | .exit id => ∀ G a w, Fr N ds G0 st0 w0 G st w a ly → Q (.exit id) a w
  | .ret => ∀ G a w, Fr N ds G0 st0 w0 G st w a ly → Q .ret a w
  | .pan p => ∀ v G a w, RelP G.M v p → Fr N ds G0 st0 w0 G st w a ly → Q (.panic [{ v, recovered := false }]) a w

def cnt (n : Nat) (listed : Array Bool) : Nat := ((List.range n).filter fun i => !listed.getD i true).length

theorem filter_le {α : Type} (p p' : α → Bool) : ∀ (l : List α), (∀ x, x ∈ l → p' x = true → p x = true) → (l.filter p').length ≤ (l.filter p).length
  | [], _ => by simp
  | z :: r, h1 => by
    have ih := filter_le p p' r fun x hx => h1 x (by simp [hx])
    simp only [List.filter_cons]
    have hz := h1 z (by simp)
    cases hp' : p' z with
    | true => rw [hz hp']; simp; omega
    | false => cases hp : p z <;> simp <;> omega

theorem filter_lt {α : Type} (p p' : α → Bool) : ∀ (l : List α), (∀ x, x ∈ l → p' x = true → p x = true) → (∃ x, x ∈ l ∧ p x = true ∧ p' x = false) → (l.filter p').length < (l.filter p).length
  | [], _, h => by obtain ⟨x, hx, _⟩ := h; cases hx
  | y :: r, h1, h2 => by
    have le : (r.filter p').length ≤ (r.filter p).length := filter_le p p' r fun x hx => h1 x (by simp [hx])
    obtain ⟨x, hx, hpx, hpx'⟩ := h2
    simp only [List.filter_cons]
    cases hx with
    | head => rw [hpx, hpx']; simp; omega
    | tail _ hx =>
      have lt := filter_lt p p' r (fun z hz => h1 z (by simp [hz])) ⟨x, hx, hpx, hpx'⟩
      have hy := h1 y (by simp)
      cases hp' : p' y with
      | true => rw [hy hp']; simp; omega
      | false => cases hp : p y <;> simp <;> omega

section
variable {P : Program} {h : Hints} {N : Nat} {ops : Array Oper} {dl : List DI} {call : CallF} {T : List TE} {rest : List DI} {ly : Ly} {st : St} {listed : Array Bool}
variable {ds : List Deferred} {G0 : Gh} {st0 : St} {w0 : World} {a : Act} {w : World} {q : Nat} {G : Gh}

theorem not_on (hs : listed.size = ops.size) {i : Nat} (hi : i < ops.size) : ¬ On listed i ↔ listed.getD i true = false := by
  unfold On
  simp only [Array.getD_eq_getD_getElem?]
  rw [Array.getElem?_eq_getElem (by omega)]
  simp

theorem cnt_set (hs : listed.size = ops.size) {i : Nat} (hi : i < ops.size) (hn : ¬ On listed i) : cnt ops.size (listed.setIfInBounds i true) < cnt ops.size listed := by
  refine filter_lt _ _ _ (fun x hx h => ?_) ⟨i, by simpa using hi, by rw [(not_on hs hi).1 hn]; rfl, by simp [hs, hi]⟩
  have hx' : x < ops.size := by simpa using hx
  by_cases hxi : x = i
  · subst hxi
    rw [(not_on hs hi).1 hn]; rfl
  · simp only [Array.getD_eq_getD_getElem?] at h ⊢
    rw [Array.getElem?_setIfInBounds_ne (fun e => hxi e.symm)] at h
    exact h

theorem least (R : Nat → Prop) : ∀ n, (∃ p, p < n ∧ R p) → ∃ p, p < n ∧ R p ∧ ∀ q, q < p → ¬ R q := by
  intro n ⟨p, hp, hr⟩
  induction p using Nat.strongRecOn with
  | _ p ih =>
    by_cases hx : ∃ q, q < p ∧ R q
    · obtain ⟨q, h1, h2⟩ := hx
      exact ih q h1 (by omega) h2
    · exact ⟨p, hp, hr, fun q hq hrq => hx ⟨q, hq, hrq⟩⟩

/-- Nothing may come any more: all have come. -/
theorem all_on (hg : Good P h N ops [] dl) (hs : listed.size = ops.size) (hr : Region.ready .any ops listed = []) : ∀ (p : Nat) (d : DI), dl[p]? = some d → On listed d.i := by
  intro p d hd
  by_cases hx : ∃ p, p < dl.length ∧ ∃ d, dl[p]? = some d ∧ ¬ On listed d.i
  · exfalso
    obtain ⟨p, hp, ⟨d, hd, hn⟩, hmin⟩ := least _ _ hx
    obtain ⟨o, hck⟩ := hg.at dl [] p d hd
    have hi : d.i < ops.size := (Array.getElem?_eq_some_iff.1 hck.op).1
    have hmem : d.i ∈ Region.ready .any ops listed := mem_ready.2 ⟨(not_on hs hi).1 hn, o, hck.op, fun e he hb => by
      obtain ⟨d', h1, h2⟩ := ancOf_dep _ _ _ hck.anc e (by simpa using he) hb
      obtain ⟨q, hq, hdq⟩ := mem_take_rev h1
      have h3 := hmin q hq
      rw [← h2]
      exact Classical.byContradiction fun h4 => h3 ⟨d', hdq, h4⟩⟩
    rw [hr] at hmem
    cases hmem
  · exact Classical.byContradiction fun h1 => hx ⟨p, (List.getElem?_eq_some_iff.1 hd).1, d, hd, h1⟩

theorem any_sound (hcall : CallOK P call) (hplain : CallPlain P call) {Q : Exit → Act → World → Prop} {x : AX} {lyF : Ly} {stF : St} (hg : Good P h N ops [] dl) (hT : dl = T.map TE.d ++ rest) (ht : Tra call T ly st) (hfit : Ly.fits ly)
    (hend : (x = .norm ∧ rest = [] ∧ lyF = endL T ly ∧ stF = endS T st) ∨ (∃ p d rest', x = .pan p ∧ lyF = [(Ly.top (endL T ly), [])] ∧ rest = d :: rest' ∧ wants (endL T ly) d.ao.gd = some true ∧ d.ao.op.run call (endL T ly) (endS T st) = some (.pan p, stF) ∧ d.chg = true))
    (hl : Lands N ds G0 st0 w0 Q x lyF stF) : ∀ (fuel : Nat) (listed : Array Bool) (a : Act) (w : World) (q : Nat) (G : Gh), JJ ops N ds G0 st0 w0 T ly st listed a w q G → cnt ops.size listed ≤ fuel → wpAny P .any ops Q fuel listed a w := by
  have done : ∀ (listed : Array Bool) (a : Act) (w : World) (q : Nat) (G : Gh), JJ ops N ds G0 st0 w0 T ly st listed a w q G → Region.ready .any ops listed = [] → Q .normal a w := by
    intro listed a w q G J hr
    have hall := all_on hg J.lsize hr
    rcases hend with ⟨rfl, rfl, rfl, rfl⟩ | ⟨p, d, rest', rfl, _, rfl, _, _, _⟩
    · refine hl G a w ?_
      have hst : stN T st q = endS T st := by
        rw [← stN_end]
        refine stN_flat ht T.length J.qle fun p te hp h1 h2 => ?_
        cases hc : te.d.chg with
        | false => rfl
        | true =>
          have := (J.chg p te hp hc).1 (hall p te.d (dl_of hT hp))
          omega
      obtain ⟨m1, m2, m3, m4⟩ := endL_marks T ly st ht
      have hJ := J.env
      have hJ2 := J.low
      rw [hst] at hJ hJ2
      refine ⟨fun s y hy => hJ s T.length (Nat.le_refl _) (fun p te hp _ => ⟨fun _ => hall p te.d (dl_of hT hp), fun _ => (List.getElem?_eq_some_iff.1 hp).1⟩) y (by rw [lyN_end]; exact hy), by have := J.inv; rwa [hst] at this, J.asize, J.defers, m2 hfit, fun k e hk => ?_, m4 J.ne, by have := J.ext; rwa [hst] at this⟩
      obtain ⟨e', he'⟩ := m1 k ⟨e, hk⟩
      exact hJ2 k e' he'
    · exfalso
      have hd : dl[T.length]? = some d := by rw [hT]; simp
      obtain ⟨p', te', h1, h2⟩ := J.sub d.i (hall _ d hd)
      exact (pair_of hg (dl_of hT h1) hd (List.getElem?_eq_some_iff.1 h1).1).1 h2
  have now : ∀ (listed : Array Bool) (a : Act) (w : World) (q : Nat) (G : Gh), JJ ops N ds G0 st0 w0 T ly st listed a w q G → ∀ i, i ∈ Region.ready .any ops listed → ∃ (p : Nat) (d : DI) (o : Oper), dl[p]? = some d ∧ d.i = i ∧ Now ops listed d o ∧ i < ops.size := by
    intro listed a w q G J i hi
    obtain ⟨h1, o, h2, h3⟩ := mem_ready.1 hi
    have hlt : i < ops.size := (Array.getElem?_eq_some_iff.1 h2).1
    obtain ⟨d, hd, hdi⟩ := Good.all dl [] hg i hlt
    rcases hd with hd | hd
    · cases hd
    · obtain ⟨p, hp, e⟩ := List.getElem_of_mem hd
      exact ⟨p, d, o, by rw [List.getElem?_eq_getElem hp, e], hdi, ⟨by rw [hdi]; exact h2, by rw [hdi]; exact (not_on J.lsize hlt).2 h1, h3⟩, hlt⟩
  intro fuel
  induction fuel with
  | zero =>
    intro listed a w q G J hc
    have hr : Region.ready .any ops listed = [] := by
      cases hrr : Region.ready .any ops listed with
      | nil => rfl
      | cons i r =>
        exfalso
        have hi : i ∈ Region.ready .any ops listed := by rw [hrr]; simp
        obtain ⟨p, d, o, h1, h2, h3, h4⟩ := now listed a w q G J i hi
        have := cnt_set J.lsize h4 (by rw [← h2]; exact h3.off)
        omega
    exact ⟨hr, done listed a w q G J hr⟩
  | succ fuel ih =>
    intro listed a w q G J hc
    refine ⟨done listed a w q G J, fun i hi => ?_⟩
    obtain ⟨p, d, o, h1, h2, h3, h4⟩ := now listed a w q G J i hi
    subst h2
    have hcnt := cnt_set J.lsize h4 h3.off
    rcases Nat.lt_trichotomy p T.length with hp | hp | hp
    · obtain ⟨te, hte⟩ : ∃ te, T[p]? = some te := ⟨T[p], List.getElem?_eq_getElem hp⟩
      have : te.d = d := by have := dl_of hT hte; rw [h1] at this; injection this with this; exact this.symm
      subst this
      exact J.step hcall hplain hg hT ht hte h3 fun a' w' q' G' J' => ih _ a' w' q' G' J' (by omega)
    · subst hp
      rcases hend with ⟨_, rfl, _, _⟩ | ⟨pv, d', rest', rfl, rfl, rfl, hw, hrun, hchg⟩
      · have : (List.map TE.d T ++ [])[T.length]? = some d := by rw [← hT]; exact h1
        simp at this
      · have hdd : d' = d := by rw [hT] at h1; simpa using h1
        subst hdd
        obtain ⟨o', hck⟩ := hg.at dl [] _ d' h1
        have hoo : o' = o := by have := hck.op; rw [h3.op] at this; injection this with this; exact this.symm
        subst hoo
        have henv := J.envOn hg hT h1 (Nat.le_refl _) h3
        rw [lyN_end] at henv
        have hwr := wanted_rel hck.norm henv hw
        obtain ⟨hh, _⟩ := J.here hg hT ht h1 (Nat.le_refl _) h3 hchg
        rw [stN_end] at hh
        have htop : Ly.top (endL T ly) = Ly.top ly := (endL_marks T ly st ht).2.2.1
        have htm : ∃ e, (Ly.top ly, e) ∈ ly := by
          cases hly : ly with
          | nil => exact absurd hly J.ne
          | cons pr r => obtain ⟨k, e⟩ := pr; exact ⟨e, by simp [Ly.top]⟩
        obtain ⟨e0, he0⟩ := htm
        obtain ⟨l1, l2, l3⟩ := J.low _ e0 he0
        rw [hh] at henv l1 l2
        have hinv := J.inv
        have hext := J.ext
        rw [hh] at hinv hext
        unfold wpOp
        simp only [h3.op, hwr, if_true]
        refine .inl (op_on hcall hplain hck.norm henv hinv (by rw [htop]; exact l2) hrun ⟨fun x hx => (by cases hx), fun p' hx v G' w' r1 r2 r3 => ?_⟩)
        injection hx with hx; subst hx
        refine hl v G' a w' r1 ⟨fun s y hy => by simp [Ly.get, Env.get] at hy, r2, J.asize, J.defers, ⟨fun s y hy => by simp [Ly.get] at hy, fun _ hp => (by cases hp), trivial⟩, fun k e hk => ?_, by simp, hext.trans (r3.weaken (by rw [htop]; exact l3))⟩
        simp only [List.mem_singleton, Prod.mk.injEq] at hk
        obtain ⟨rfl, rfl⟩ := hk
        exact ⟨r3.age _ (Nat.le_refl _) (by rw [htop]; exact l1), by rw [htop]; exact Nat.le_trans l2 r3.len, by rw [htop]; exact l3⟩
    · exfalso
      have hlt : p < dl.length := (List.getElem?_eq_some_iff.1 h1).1
      rcases hend with ⟨_, rfl, _, _⟩ | ⟨pv, d', rest', rfl, _, rfl, hw, hrun, hchg⟩
      · rw [hT] at hlt; simp at hlt; omega
      · have hd' : dl[T.length]? = some d' := by rw [hT]; simp
        rcases (pair_of hg hd' h1 hp).2 with h5 | ⟨h5, _⟩
        · have h6 := h3.before hg J.closed h1 hd' hp h5
          obtain ⟨p', te', h7, h8⟩ := J.sub d'.i h6
          exact (pair_of hg (dl_of hT h7) hd' (List.getElem?_eq_some_iff.1 h7).1).1 h8
        · rw [hchg] at h5; cases h5

theorem draw_sound (hcall : CallOK P call) (hplain : CallPlain P call) (hm : P.follows .mixedOrders = true) {Q : Exit → Act → World → Prop} {x : AX} {lyF : Ly} {stF : St} {l : List (Nat × Bool)} {id : Nat} (hn : normDrawI P h N ops [] l = some dl)
    (hrun : runDraw call (dl.map DI.todo) ly st = some (x, lyF, stF)) (fr : Fr N ds G0 st0 w0 G st w a ly) (hl : Lands N ds G0 st0 w0 Q x lyF stF) : (Code.region id ops true).wp P Q a w := by
  have hg := normDrawI_good l [] dl hn
  obtain ⟨T, rest, hT, ht, hend⟩ := trace_of dl ly st x lyF stF hrun
  refine wp_region_any hm (any_sound hcall hplain hg hT ht fr.fits hend hl ops.size _ a _ 0 G ?_ ?_)
  · have h0 : stN T st 0 = st := rfl
    have off : ∀ i, ¬ On (Array.replicate ops.size false) i := by
      intro i h
      unfold On at h
      simp only [Array.getD_eq_getD_getElem?, Array.getElem?_replicate] at h
      split at h <;> simp at h
    refine ⟨by simp, fun i o _ hon => (off i hon).elim, fun i hon => (off i hon).elim, fun p te _ _ => ⟨fun hon => (off _ hon).elim, fun h => by omega⟩, Nat.zero_le _, fun s r hr hsep y hy => ?_, ?_, fr.size, fr.defers, fr.low, fun k e hk => fr.tops hk, fr.ne, ?_⟩
    · have : Ly.get (lyN T ly 0) s = Ly.get (lyN T ly r) s := lyN_flat ht r (Nat.zero_le _) fun p te hp _ h2 hd => off _ ((hsep p te hp hd).1 h2)
      rw [← this] at hy
      exact fr.env s y hy
    · exact ⟨fr.inv.mem, fr.inv.objs, fr.inv.inj, fr.inv.lt⟩
    · exact fr.ext.trans ⟨Mem.le_refl _, Nat.le_refl _, Nat.le_refl _, (Ext.refl 0 G st w).kind, fun _ _ _ => ⟨rfl, fun _ => rfl⟩, fun _ p hi hp => .inl ⟨hi, p.2, hp⟩, fun _ _ h => h, rfl, rfl, rfl⟩
  · unfold cnt
    have := List.length_filter_le (fun i => !(Array.replicate ops.size false).getD i true) (List.range ops.size)
    simpa using this
end
end Go.Proofs.Kh
