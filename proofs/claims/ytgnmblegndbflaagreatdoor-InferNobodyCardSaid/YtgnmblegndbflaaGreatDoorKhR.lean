/- Each of the machine's operations does what the model's does. -/
import Derived.Test.YtgnmblegndbflaaGreatDoorKhQ
namespace Go.Proofs.Kh
set_option linter.all false
set_option linter.unusedVariables false
set_option linter.unusedSimpArgs false
open Go

/-- How a call came back, and what of it is known. -/
def Came (tm : Nat) (G : Gh) (st : St) (w : World) (r : ARes) (st' : St) (e : Ending) (w' : World) : Prop :=
  match r with
  | .ret x => ∃ v G', e = .returned v ∧ RelV G' st' v x ∧ Inv G' st' w' ∧ Ext tm G st w G' st' w'
  | .pan p => ∃ v G', e = .panicked [{ v, recovered := false }] ∧ RelP G'.M v p ∧ Inv G' st' w' ∧ Ext tm G st w G' st' w'

/-- What a call of the machine's says of the model's. -/
def CallOK (P : Program) (call : CallF) : Prop :=
  ∀ (f : FuncId) (xs : List AV) (st : St) (r : ARes) (st' : St) (tm : Nat) (G : Gh) (w : World) (vs : Array Value), call f xs st = some (r, st') → Inv G st w → tm ≤ st.length → vs.size = xs.length →
    (∀ (k : Nat) (v : Value) (x : AV), vs[k]? = some v → xs[k]? = some x → RelV G st v x) → plainF P f = true →
    Calls P f vs w (Came tm G st w r st')

def CallPlain (P : Program) (call : CallF) : Prop := ∀ f xs st r, call f xs st = some r → plainF P f = true

theorem RelV.more {G : Gh} {st : St} {v : Value} {x : AV} (h : RelV G st v x) {M' : Mem} (hle : Mem.le G.M M') : RelV ⟨M', G.ps⟩ st v x := by
  induction h with
  | pd v x hx => exact .pd v x (hx.mono hle)
  | nil => exact .nil
  | tight a n xs hx => exact .tight a n xs (hx.mono hle)
  | row id n v hi ho hx => exact .row id n v hi ho hx
  | rp id n i off v hi ho hx => exact .rp id n i off v hi ho hx
  | ptr id off b c hi hr hx => exact .ptr id off b c hi hr hx
  | clo f us vs fs cs hk hl hq hr ih1 ih2 => exact .clo f us vs fs cs hk hl ih1 ih2
  | agg vs cs hl ho hr ih => exact .agg vs cs hl ho ih
  | tup vs cs hl hr ih => exact .tup vs cs hl ih
  | bot v => exact .bot v

/-- What was there stands as it did behind what began with nothing. -/
theorem pure_frame {G G' : Gh} {st : St} {w w' : World} (tm : Nat) (inv : Inv G st w) (inv' : Inv G' [] w') (e : Ext 0 G [] w G' [] w') : Inv ⟨G'.M, G.ps⟩ st w' ∧ Ext tm G st w ⟨G'.M, G.ps⟩ st w' := by
  have hfor : ∀ b, b < w.heap.size → w'.heap[b]? = w.heap[b]? ∧ ∀ o, G'.M b o = G.M b o := fun b hb => e.foreign b hb (by rintro ⟨i, c, hi, _⟩; simp at hi)
  refine ⟨⟨inv'.mem, fun id ob hob => ?_, inv.inj, fun i p hi hp => Nat.lt_of_lt_of_le (inv.lt i p hi hp) e.size⟩, ⟨e.mem, e.size, Nat.le_refl _, (Ext.refl 0 G st w).kind, fun b hb _ => hfor b hb, fun i p hi hp => .inl ⟨hi, p.2, hp⟩, fun _ _ h => h, e.os, e.tape, e.output⟩⟩
  have h := inv.objs id ob hob
  have hi : id < st.length := (List.getElem?_eq_some_iff.1 hob).1
  cases ob with
  | var cells =>
    refine ⟨h.1, ?_⟩
    rcases h.2 with h0 | ⟨b, c, cur, T, e1, e2, e3, e4, e5, e6⟩
    · exact .inl h0
    · have hb := hfor b (inv.lt id _ hi e1)
      exact .inr ⟨b, c, cur, T, e1, hb.1.trans e2, e3, e4, fun k v c h1 h2 => (e5 k v c h1 h2).more e.mem, fun o => (hb.2 o).trans (e6 o)⟩
  | row mt sz xs =>
    obtain ⟨h1, h2, h3⟩ := h
    refine ⟨h1, h2, ?_⟩
    rcases h3 with h3 | ⟨g, cap, cur, T, fr, e1, e2, e3, e4, e5, e6, e7, e8, e9⟩
    · exact .inl h3
    · have hb := hfor g (inv.lt id _ hi e1)
      refine .inr ⟨g, cap, cur, T, fr, e1, hb.1.trans e2, e3, e4, e5, e6, e7, fun k v c h1 h2 => (e8 k v c h1 h2).mono e.mem, ?_⟩
      rcases e9 with ⟨a1, a2⟩ | ⟨a1, a2, a3⟩
      · exact .inl ⟨a1, fun o => (hb.2 o).trans (a2 o)⟩
      · exact .inr ⟨a1, fun o ho => (hb.2 o).trans (a2 o ho), fun o ho => (hb.2 o).trans (a3 o ho)⟩
  | iter s pos =>
    obtain ⟨b, c, e1, e2⟩ := h
    exact ⟨b, c, e1, (hfor b (inv.lt id _ hi e1)).1.trans e2⟩
  | dead => trivial

theorem isPd_rel {G G' : Gh} {st st' : St} {v : Value} {x : AV} (hx : x.isPd = true) (h : RelV G st v x) (hle : Mem.le G.M G'.M) : RelV G' st' v x := by
  cases h with
  | pd _ _ h => exact .pd _ _ (h.mono hle)
  | _ => cases hx

theorem callIn_ok {P : Program} {call : CallF} (hc : CallOK P call) : CallOK P (callIn call) := by
  intro f xs st r st' tm G w vs h inv htm hl hr hf
  unfold callIn at h
  split at h
  · rename_i hall
    unfold pureCall at h
    split at h
    · rename_i r0 h0
      split at h
      · rename_i hp
        simp only [Option.some.injEq, Prod.mk.injEq] at h
        obtain ⟨rfl, rfl⟩ := h
        have hr' : ∀ (k : Nat) (v : Value) (x : AV), vs[k]? = some v → xs[k]? = some x → RelV G [] v x := fun k v x hv hx =>
          isPd_rel (List.all_eq_true.1 hall x (List.mem_of_getElem? hx)) (hr k v x hv hx) (Mem.le_refl _)
        have inv0 : Inv G [] w := ⟨inv.mem, fun id ob h => by simp at h, fun i j p q hi => by simp at hi, fun i p hi => by simp at hi⟩
        refine (hc f xs [] r0 [] 0 G w vs h0 inv0 (Nat.zero_le _) hl hr' hf).mono fun e w' he => ?_
        cases r0 with
        | ret x =>
          obtain ⟨v, G', rfl, h1, h2, h3⟩ := he
          obtain ⟨i1, x1⟩ := pure_frame tm inv h2 h3
          refine ⟨v, ⟨G'.M, G.ps⟩, rfl, ?_, i1, x1⟩
          cases x with
          | pd p => exact isPd_rel rfl h1 (Mem.le_refl _)
          | tup cs =>
            cases h1 with
            | tup us _ hl hr =>
              refine .tup us cs hl fun k u c hu hc' => ?_
              exact isPd_rel (List.all_eq_true.1 hp c (List.mem_of_getElem? hc')) (hr k u c hu hc') (Mem.le_refl _)
          | _ => cases hp
        | pan p =>
          obtain ⟨v, G', rfl, h1, h2, h3⟩ := he
          obtain ⟨i1, x1⟩ := pure_frame tm inv h2 h3
          exact ⟨v, ⟨G'.M, G.ps⟩, rfl, h1, i1, x1⟩
      · cases h
    · cases h
  · exact hc f xs st r st' tm G w vs h inv htm hl hr hf

theorem callIn_plain {P : Program} {call : CallF} (hc : CallPlain P call) : CallPlain P (callIn call) := by
  intro f xs st r h
  unfold callIn at h
  split at h
  · unfold pureCall at h
    split at h
    · rename_i h0; exact hc _ _ _ _ h0
    · cases h
  · exact hc _ _ _ _ h

section
variable {P : Program} {tm : Nat} {G : Gh} {st : St} {w : World} {o : Oper} {a : Act} {next : Act → World → Prop} {Q : Exit → Act → World → Prop}

structure Post (tm : Nat) (G : Gh) (st : St) (w : World) (r : ARes) (st' : St) (o : Oper) (a : Act) (next : Act → World → Prop) (Q : Exit → Act → World → Prop) : Prop where
  ret : ∀ x, r = .ret x → ∀ v G' w', RelV G' st' v x → Inv G' st' w' → Ext tm G st w G' st' w' → next (a.put o.dst v) w'
  pan : ∀ p, r = .pan p → ∀ v G' w', RelP G'.M v p → Inv G' st' w' → Ext tm G st w G' st' w' → Q (.panic [{ v, recovered := false }]) a w'

theorem wp_yields {s : Sem Value} {x : AV} {st' : St} (hp : Post tm G st w (.ret x) st' o a next Q) (hs : execOp a.eval o = (do pure (Next.value (← s)))) (hy : Yields P tm G st w s x st') : o.wp P a w next Q := by
  obtain ⟨v, G', w', h1, h2, h3, h4⟩ := hy
  unfold Oper.wp
  rw [hs]
  simp only [Sem.run_bind, h1, Result.andThen_ok, Sem.run_pure]
  exact hp.ret x rfl v G' w' h2 h3 h4

theorem wp_pure {v : Value} {x : AV} (hp : Post tm G st w (.ret x) st o a next Q) (hs : execOp a.eval o = pure (Next.value v)) (h : RelV G st v x) (inv : Inv G st w) : o.wp P a w next Q := by
  unfold Oper.wp
  rw [hs]
  exact hp.ret x rfl v G w h inv (Ext.refl _ _ _ _)

theorem wp_yieldsU {s : Sem Unit} {st' : St} (hp : Post tm G st w (.ret (.tup [])) st' o a next Q) (hs : execOp a.eval o = (do s; pure Next.skip)) (hy : YieldsU P tm G st w s st') : o.wp P a w next Q := by
  obtain ⟨G', w', h1, h2, h3⟩ := hy
  unfold Oper.wp
  rw [hs]
  simp only [Sem.run_bind, h1, Result.andThen_ok, Sem.run_pure]
  exact hp.ret _ rfl undef G' w' (.tup #[] [] rfl (fun k v c h => by simp at h)) h2 h3

/-- After things are held still first. -/
theorem Post.after {r : ARes} {st1 st' : St} {G1 : Gh} (hp : Post tm G st w r st' o a next Q) (e : Ext tm G st w G1 st1 w) : Post tm G1 st1 w r st' o a next Q :=
  ⟨fun x hx v G' w' h1 h2 h3 => hp.ret x hx v G' w' h1 h2 (e.trans h3), fun p hx v G' w' h1 h2 h3 => hp.pan p hx v G' w' h1 h2 (e.trans h3)⟩

theorem EnvRel.ext {ly : Ly} (he : EnvRel G st a ly) {G1 : Gh} {st1 : St} {w1 : World} (e : Ext tm G st w G1 st1 w1) : EnvRel G1 st1 a ly :=
  fun s x hx => let ⟨v, h1, h2⟩ := he s x hx; ⟨v, h1, h2.ext e⟩

theorem plainF_some {f : FuncId} (h : plainF P f = true) : ∃ fn, P.funcs[f]? = some fn ∧ fn.body.isSome = true ∧ (fn.name == "runtime.NumGoroutine") = false := by
  unfold plainF at h
  split at h
  · rename_i fn hf
    simp only [Bool.and_eq_true, Bool.not_eq_true'] at h
    exact ⟨fn, hf, h.1, h.2⟩
  · cases h

theorem run_callFunc {f : FuncId} {vs : Array Value} (h : plainF P f = true) : (callFunc f vs).run P w = .ok (.enter f vs) w := by
  obtain ⟨fn, h1, h2, h3⟩ := plainF_some h
  unfold callFunc
  simp only [Sem.run_bind, run_program, Result.andThen_ok, h1, h3]
  simp [Option.isNone_iff_eq_none, Option.isSome_iff_ne_none.1 h2]

theorem wp_call {call : CallF} (hc : CallOK P call) {f : FuncId} {xs : List AV} {r : ARes} {st' : St} {vs : Array Value} (hp : Post tm G st w r st' o a next Q) (hs : (execOp a.eval o).run P w = (callFunc f vs).run P w) (hf : plainF P f = true) (inv : Inv G st w)
    (htm : tm ≤ st.length) (hl : vs.size = xs.length) (hr : ∀ (k : Nat) (v : Value) (x : AV), vs[k]? = some v → xs[k]? = some x → RelV G st v x) (h : call f xs st = some (r, st')) : o.wp P a w next Q := by
  unfold Oper.wp
  rw [hs, run_callFunc hf]
  refine (hc f xs st r st' tm G w vs h inv htm hl hr hf).mono fun e w' he => ?_
  cases r with
  | ret x =>
    obtain ⟨v, G', rfl, h1, h2, h3⟩ := he
    exact hp.ret x rfl v G' w' h1 h2 h3
  | pan p =>
    obtain ⟨v, G', rfl, h1, h2, h3⟩ := he
    exact hp.pan p rfl v G' w' h1 h2 h3

theorem evO_rel {ly : Ly} (he : EnvRel G st a ly) {oo : Option Operand} {p : Option Opd} {d n : Nat} (ho : opdO oo = some p) (hn : evO ly d p = some n) :
    (p = none ∧ oo = none ∧ n = d) ∨ ∃ x k, oo = some x ∧ p ≠ none ∧ a.eval x = .int k n := by
  cases oo with
  | none =>
    simp only [opdO, Option.some.injEq] at ho; subst ho
    simp only [evO, Option.some.injEq] at hn
    exact .inl ⟨rfl, rfl, hn.symm⟩
  | some x =>
    simp only [opdO] at ho
    split at ho
    · rename_i q hq
      injection ho with ho; subst ho
      simp only [evO] at hn
      split at hn
      · rename_i y hy
        have h1 := ev_rel he hq hy
        unfold natOf at hn
        split at hn
        · rename_i k m
          split at hn
          · rename_i h0
            injection hn with hn
            refine .inr ⟨x, k, rfl, by simp, ?_⟩
            rw [h1.int_inv]
            congr 1; omega
          · cases hn
        · cases hn
      · cases hn
    · cases ho

theorem run_bound {k : IntKind} {n y : Nat} {c : BoundsCode} (h : n ≤ y) : (Instr.sliceBound (.int k n) y c).run P w = .ok n w := by
  simp only [Instr.sliceBound, asIntOf, Sem.run_bind, Sem.run_pure, Result.andThen_ok]
  rw [if_pos (by omega)]
  simp

theorem run_bounds {ly : Ly} (he : EnvRel G st a ly) {lo hi mx : Option Operand} {plo phi pmx : Option Opd} {len cap l h m : Nat} {b : Bool} (h1 : opdO lo = some plo) (h2 : opdO hi = some phi) (h3 : opdO mx = some pmx)
    (e1 : evO ly 0 plo = some l) (e2 : evO ly len phi = some h) (e3 : evO ly len pmx = some m) (hlh : l ≤ h) (hhm : h ≤ m) (hml : m ≤ len) (hlc : len ≤ cap) (hmm : pmx ≠ none → phi ≠ none) :
    (Instr.sliceBounds b len cap (lo.map a.eval) (hi.map a.eval) (mx.map a.eval)).run P w = .ok (l, h, if pmx.isSome then m else cap) w := by
  unfold Instr.sliceBounds
  rcases evO_rel he h3 e3 with ⟨rfl, rfl, rfl⟩ | ⟨xm, km, rfl, hpm, hxm⟩
  · rcases evO_rel he h2 e2 with ⟨rfl, rfl, rfl⟩ | ⟨xh, kh, rfl, hph, hxh⟩
    · rcases evO_rel he h1 e1 with ⟨rfl, rfl, rfl⟩ | ⟨xl, kl, rfl, hpl, hxl⟩
      · simp
      · simp only [Option.map_none, Option.map_some, Sem.run_bind, Sem.run_pure, Result.andThen_ok, hxl, run_bound hlh]
        simp
    · rcases evO_rel he h1 e1 with ⟨rfl, rfl, rfl⟩ | ⟨xl, kl, rfl, hpl, hxl⟩
      · simp only [Option.map_none, Option.map_some, Sem.run_bind, Sem.run_pure, Result.andThen_ok, hxh, run_bound (show h ≤ cap by omega)]
        simp
      · simp only [Option.map_none, Option.map_some, Sem.run_bind, Sem.run_pure, Result.andThen_ok, hxh, hxl, run_bound (show h ≤ cap by omega), run_bound hlh]
        simp
  · have hps : pmx.isSome = true := by cases pmx <;> simp_all
    rcases evO_rel he h2 e2 with ⟨rfl, rfl, rfl⟩ | ⟨xh, kh, rfl, hph, hxh⟩
    · exact absurd rfl (hmm hpm)
    · rcases evO_rel he h1 e1 with ⟨rfl, rfl, rfl⟩ | ⟨xl, kl, rfl, hpl, hxl⟩
      · simp only [Option.map_none, Option.map_some, Sem.run_bind, Sem.run_pure, Result.andThen_ok, hxm, hxh, run_bound (show m ≤ cap by omega), run_bound hhm, hps]
        simp
      · simp only [Option.map_some, Sem.run_bind, Sem.run_pure, Result.andThen_ok, hxm, hxh, hxl, run_bound (show m ≤ cap by omega), run_bound hhm, run_bound hlh, hps]
        simp
end
end Go.Proofs.Kh
