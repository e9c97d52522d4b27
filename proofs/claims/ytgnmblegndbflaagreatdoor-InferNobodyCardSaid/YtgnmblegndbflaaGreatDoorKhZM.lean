/- Functions that end with a deferred call, which may catch what panics. -/
import Derived.Test.YtgnmblegndbflaaGreatDoorKhZJ
import Derived.Defers
import Derived.Recover
namespace Go.Proofs.Kh
set_option linter.all false
set_option linter.unusedVariables false
set_option linter.unusedSimpArgs false
open Go

inductive DC where
  | seq (a : ACode) (r : DC)
  | dfr (xs : List Opd) (post : ACode)

/-- What a deferred function is: its parameters, where it keeps what it recovers, the rest. -/
structure CFn where
  np : Nat
  slot : Nat
  body : ACode

structure DFn where
  np : Nat
  res : List RV
  code : DC
  ct : CFn
  md : Nat

abbrev DRes := AX × Ly × St × Option (List AV)

noncomputable def DC.run (call : CallF) : DC → Ly → St → Option DRes
  | .seq a r, ly, st => match a.run call ly st with
    | some (.norm, ly1, st1) => r.run call ly1 st1
    | some (x, ly1, st1) => some (x, ly1, st1, none)
    | none => none
  | .dfr xs post, ly, st => match ly with
    | [(m, e)] => match evL [(m, e)] xs with
      | some ys => match post.run call [(st.length, e)] st with
        | some (x, ly2, st2) => some (x, ly2, st2, some ys)
        | none => none
      | none => none
    | _ => none

noncomputable def CFn.run (call : CallF) (c : CFn) (r : PD) (ys : List AV) (st : St) : Option St :=
  if ys.length = c.np then match c.body.run call (putO st [(st.length, params 0 ys)] (some c.slot) (.pd r)) st with
    | some (.norm, _, st') => some (st'.take st.length)
    | some (.ret, _, st') => some (st'.take st.length)
    | _ => none
  else none

def back (md : Nat) (res : List RV) (base : Nat) (ly : Ly) (st : St) : Option Out := match evRes ly st res with
  | some ys => leave md base st ys
  | none => none

noncomputable def DFn.enter (call : CallF) (df : DFn) (xs : List AV) (st : St) : Option Out :=
  if xs.length = df.np then
    match df.code.run call [(st.length, params 0 xs)] st with
    | some (.norm, ly, st', none) => back df.md df.res st.length ly st'
    | some (.ret, ly, st', none) => back df.md df.res st.length ly st'
    | some (.pan p, _, st', none) => some (.pan p, st'.take st.length)
    | some (.norm, ly, st', some ys) => match df.ct.run call .nilif ys st' with
      | some st2 => back df.md df.res st.length ly st2
      | none => none
    | some (.ret, ly, st', some ys) => match df.ct.run call .nilif ys st' with
      | some st2 => back df.md df.res st.length ly st2
      | none => none
    | some (.pan p, ly, st', some ys) => match df.ct.run call p ys st' with
      | some st2 => back df.md df.res st.length ly st2
      | none => none
    | _ => none
  else none

/-- Is it a deferred call of a function, by itself? -/
def dferOf : Code → Option (FuncId × List Operand)
  | .region _ ops false => match ops.toList with
    | [o] => match o.op with
      | .defer c => match c.callee with
        | .value (.func f) => if o.dst = none ∧ o.guard = none then some (f, c.args.toList) else none
        | _ => none
      | _ => none
    | _ => none
  | _ => none

def normDC (P : Program) (h : Hints) (N : Nat) : Code → Option (FuncId × DC)
  | .seq a b => match dferOf a with
    | some (f, xs) => match opds xs, normCode P h N b with
      | some ys, some post => some (f, .dfr ys post)
      | _, _ => none
    | none => match normCode P h N a, normDC P h N b with
      | some x, some (f, r) => some (f, .seq x r)
      | _, _ => none
  | _ => none

def recOf : Code → Option (Nat × Code)
  | .seq (.region _ ops false) rest => match ops.toList with
    | [o] => match o.op with
      | .call c => match c.callee, o.dst with
        | .builtin .recover, some d => if o.guard = none then some (d, rest) else none
        | _, _ => none
      | _ => none
    | _ => none
  | _ => none

def CFits (P : Program) (f : FuncId) (ct : CFn) : Prop :=
  ∃ fn c rest h, P.funcs[f]? = some fn ∧ fn.body = some c ∧ recOf c = some (ct.slot, rest) ∧ ct.slot < fn.ntmps ∧ normCode P h fn.ntmps rest = some ct.body ∧ fn.results = #[] ∧ ct.np ≤ fn.ntmps ∧ plainF P f = true

def DFits (P : Program) (f : FuncId) (df : DFn) : Prop :=
  ∃ fn c h rs g, P.funcs[f]? = some fn ∧ fn.body = some c ∧ normDC P h fn.ntmps c = some (g, df.code) ∧ fn.results = rs.toArray ∧ rs.length ≤ 4 ∧ normRes P rs = some df.res ∧ df.np ≤ fn.ntmps ∧ CFits P g df.ct

section
variable {P : Program} {h : Hints} {N : Nat} {G : Gh} {st : St} {w : World} {a : Act} {ly : Ly} {call : CallF} {G0 : Gh} {st0 : St} {w0 : World}

def DLands (N : Nat) (f : FuncId) (G0 : Gh) (st0 : St) (w0 : World) (Q : Exit → Act → World → Prop) : DRes → Prop
  | (x, ly, st, none) => Lands N [] G0 st0 w0 Q x ly st
  | (x, ly, st, some ys) => ∀ (G1 : Gh) (st1 : St) (w1 : World) (vs : Array Value), Ext st0.length G0 st0 w0 G1 st1 w1 → vs.size = ys.length →
      (∀ (k : Nat) (v : Value) (y : AV), vs[k]? = some v → ys[k]? = some y → RelV G1 st1 v y) → Lands N [{ target := .fn (.func f) #[], args := vs }] G1 st1 w1 Q x ly st

theorem dferOf_inv {c : Code} {f : FuncId} {xs : List Operand} (hd : dferOf c = some (f, xs)) : ∃ id o cl, c = .region id #[o] false ∧ o.op = .defer cl ∧ cl.callee = .value (.func f) ∧ o.dst = none ∧ o.guard = none ∧ xs = cl.args.toList := by
  unfold dferOf at hd
  split at hd
  · rename_i id ops
    split at hd
    · rename_i o ho
      split at hd
      · rename_i cl hcl
        split at hd
        · rename_i g hg
          split at hd
          · rename_i hc
            simp only [Option.some.injEq, Prod.mk.injEq] at hd
            obtain ⟨rfl, rfl⟩ := hd
            refine ⟨id, o, cl, ?_, hcl, hg, hc.1, hc.2, rfl⟩
            congr 1
            cases ops with
            | mk l => simp only at ho; subst ho; rfl
          · cases hd
        · cases hd
      · cases hd
    · cases hd
  · cases hd

theorem dc_sound (hcall : CallOK P call) (hplain : CallPlain P call) (hm : P.follows .mixedOrders = true) : ∀ (c : Code) (f : FuncId) (dc : DC), normDC P h N c = some (f, dc) → ∀ (Q : Exit → Act → World → Prop) (ly : Ly) (st : St) (a : Act) (w : World) (G : Gh) (r : DRes),
    Fr N [] G0 st0 w0 G st w a ly → dc.run call ly st = some r → DLands N f G0 st0 w0 Q r → c.wp P Q a w := by
  intro c
  induction c with
  | seq c1 c2 ih1 ih2 =>
    intro f dc hn Q ly st a w G r fr hr hl
    simp only [normDC] at hn
    split at hn
    · rename_i g xs hd
      split at hn
      · rename_i ys post h1 h2
        simp only [Option.some.injEq, Prod.mk.injEq] at hn
        obtain ⟨rfl, rfl⟩ := hn
        obtain ⟨id, o, cl, rfl, hop, hcl, hdst, hgd, rfl⟩ := dferOf_inv hd
        simp only [DC.run] at hr
        split at hr
        · rename_i m e
          split at hr
          · rename_i zs hzs
            split at hr
            · rename_i x ly2 st2 hpost
              injection hr with hr; subst hr
              refine wp_seq (wp_region ?_)
              obtain ⟨e1, e2⟩ := evL_rel fr.env _ _ _ h1 hzs
              have hvs : (#[] ++ cl.args.map a.eval : Array Value).size = zs.length := by simp [e1]
              have hrel : ∀ (k : Nat) (v : Value) (y : AV), (#[] ++ cl.args.map a.eval : Array Value)[k]? = some v → zs[k]? = some y → RelV G st v y := fun k v y hv hy => e2 k v y (by simpa using hv) hy
              have hl' := hl G st w (#[] ++ cl.args.map a.eval) fr.ext hvs hrel
              show wpOps P #[o] _ (List.range 1) a w
              rw [show List.range 1 = [0] from rfl]
              simp only [wpOps]
              have hw0 : (#[o] : Array Oper)[0]? = some o := rfl
              simp only [hw0]
              have hwant : Region.wanted o (yielded #[o] a.tmps) = true := by unfold Region.wanted; rw [hgd]
              rw [hwant]
              simp only [if_true]
              refine .inl ?_
              have hex : (execOp a.eval o).run P w = .ok (.defer { target := .fn (.func g) #[], args := #[] ++ cl.args.map a.eval }) w := by
                unfold execOp
                rw [hop]
                simp only [resolve, hcl, Sem.run_bind, Act.eval, Deferred.ofValue, Sem.run_pure, Result.andThen_ok]
              unfold Oper.wp
              rw [hex, Oper.upon_defer, hdst]
              show c2.wp P Q (({ a with defers := _ :: a.defers } : Act).put none undef) w
              have fr' : Fr N [{ target := .fn (.func g) #[], args := #[] ++ cl.args.map a.eval }] G st w G st w (({ a with defers := { target := .fn (.func g) #[], args := #[] ++ cl.args.map a.eval } :: a.defers } : Act).put none undef) [(st.length, e)] := by
                refine ⟨fun s x hx => ?_, fr.inv, fr.size, ?_, ⟨fun s x hx => by simp [Ly.get] at hx, fun _ hp => (by cases hp), trivial⟩, fun k e' hk => ?_, by simp, Ext.refl _ _ _ _⟩
                · exact fr.env s x (by simpa only [Ly.get] using hx)
                · show _ :: a.defers = _
                  rw [fr.defers]
                · simp only [List.mem_singleton, Prod.mk.injEq] at hk
                  obtain ⟨rfl, rfl⟩ := hk
                  exact ⟨fr.inv.low, Nat.le_refl _, Nat.le_refl _⟩
              exact code_sound hcall hplain hm c2 post h2 Q x _ st _ w G ly2 st2 fr' hpost hl'
            · cases hr
          · cases hr
        · cases hr
      · cases hn
    · split at hn
      · rename_i x g r' h1 h2
        simp only [Option.some.injEq, Prod.mk.injEq] at hn
        obtain ⟨rfl, rfl⟩ := hn
        simp only [DC.run] at hr
        refine wp_seq ?_
        split at hr
        · rename_i ly1 st1 hr1
          exact code_sound hcall hplain hm c1 x h1 _ .norm ly st a w G ly1 st1 fr hr1 fun G' a' w' fr' => ih2 g r' h2 Q ly1 st1 a' w' G' r fr' hr hl
        · rename_i y ly1 st1 hne hr1
          injection hr with hr; subst hr
          refine code_sound hcall hplain hm c1 x h1 _ y ly st a w G ly1 st1 fr hr1 ?_
          cases y with
          | norm => exact (by first | exact hne.elim | exact (hne rfl).elim)
          | exit id => exact hl
          | ret => exact hl
          | pan p => exact hl
        · cases hr
      · cases hn
  | _ => intro f dc hn; cases hn

theorem recOf_inv {c : Code} {d : Nat} {rest : Code} (hd : recOf c = some (d, rest)) : ∃ id o cl, c = .seq (.region id #[o] false) rest ∧ o.op = .call cl ∧ cl.callee = .builtin .recover ∧ o.dst = some d ∧ o.guard = none := by
  unfold recOf at hd
  split at hd
  · rename_i id ops rest'
    split at hd
    · rename_i o ho
      split at hd
      · rename_i cl hcl
        split at hd
        · rename_i d' hc hdst
          split at hd
          · rename_i hg
            simp only [Option.some.injEq, Prod.mk.injEq] at hd
            obtain ⟨rfl, rfl⟩ := hd
            refine ⟨id, o, cl, ?_, hcl, hc, hdst, hg⟩
            congr 2
            cases ops with
            | mk l => simp only at ho; subst ho; rfl
          · cases hd
        · cases hd
      · cases hd
    · cases hd
  · cases hd

theorem fr_entry {fn : Func} {xs : List AV} {vs : Array Value} (inv : Inv G st w) (hl : vs.size = xs.length) (hn : xs.length ≤ fn.ntmps) (hr : ∀ (k : Nat) (v : Value) (x : AV), vs[k]? = some v → xs[k]? = some x → RelV G st v x) :
    Fr fn.ntmps [] G st w G st w { tmps := vs ++ Array.replicate (fn.ntmps - vs.size) undef, defers := [] } [(st.length, params 0 xs)] := by
  refine ⟨fun s x hx => ?_, inv, by simp; omega, rfl, ⟨fun s x hx => by simp [Ly.get] at hx, fun _ hp => (by cases hp), trivial⟩, fun k e hk => ?_, by simp, Ext.refl _ _ _ _⟩
  · have hx' : Env.get (params 0 xs) s = some x := by
      simp only [Ly.get] at hx
      split at hx
      · rename_i y hy; rw [hy]; exact hx
      · cases hx
    rw [params_get] at hx'
    simp at hx'
    have hs : s < xs.length := (List.getElem?_eq_some_iff.1 hx').1
    have hs' : s < vs.size := by omega
    exact ⟨vs[s], by rw [Array.getElem?_append_left hs']; simp [hs'], hr s vs[s] x (by simp [hs']) hx'⟩
  · simp only [List.mem_singleton, Prod.mk.injEq] at hk
    obtain ⟨rfl, rfl⟩ := hk
    exact ⟨inv.low, Nat.le_refl _, Nat.le_refl _⟩

theorem caught_sound (hcall : CallOK P call) (hplain : CallPlain P call) (hm : P.follows .mixedOrders = true) {f : FuncId} {ct : CFn} (hf : CFits P f ct) {r : PD} {ys : List AV} {st' : St} {vs : Array Value} {u u' : FrameMode}
    (hrun : ct.run call r ys st = some st') (inv : Inv G st w) (hl : vs.size = ys.length) (hr : ∀ (k : Nat) (v : Value) (y : AV), vs[k]? = some v → ys[k]? = some y → RelV G st v y)
    (hu : (u = .returning ∧ r = .nilif ∧ u' = .returning) ∨ ∃ v, u = .panicking [{ v, recovered := false }] ∧ RelP G.M v r ∧ u' = .panicking [{ v, recovered := true }]) :
    CallsD P f vs u w fun e u2 w' => (∃ x, e = .returned x) ∧ u2 = u' ∧ ∃ G', Inv G' st' w' ∧ Ext st.length G st w G' st' w' := by
  obtain ⟨fn, c, rest, h, f1, f2, f3, f4, f5, f6, f7, _⟩ := hf
  obtain ⟨id, o, cl, rfl, hop, hcl, hdst, hgd⟩ := recOf_inv f3
  unfold CFn.run at hrun
  split at hrun
  · rename_i hnp
    refine callsD_of_wpS f1 f2 fun c₀ cs hc0 => ?_
    refine wpS_seq (wpS_region ?_)
    show wpOpsS P #[o] _ (List.range 1) _ _ w
    rw [show List.range 1 = [0] from rfl]
    simp only [wpOpsS]
    have hw0 : (#[o] : Array Oper)[0]? = some o := rfl
    simp only [hw0]
    have hwant : ∀ t, Region.wanted o (yielded #[o] t) = true := fun t => by unfold Region.wanted; rw [hgd]
    simp only [hwant, if_true]
    have hex : ∀ ρ, (execOp ρ o).run P w = .ok .recover w := fun ρ => by
      unfold execOp
      rw [hop]
      simp only [resolve, hcl, Sem.run_bind, Sem.run_pure, Result.andThen_ok, invoke, builtin]
    simp only [hex]
    have fr0 := fr_entry (fn := fn) inv hl (by omega) hr
    have go : ∀ (v : Value) (c' : Frame) (u'' : FrameMode), RelP G.M v r → c' = { c₀ with mode := u'' } → u'' = u' →
        rest.wpS P (bodyPostS P fn c₀ cs fun e u2 w' => (∃ x, e = .returned x) ∧ u2 = u' ∧ ∃ G', Inv G' st' w' ∧ Ext st.length G st w G' st' w') (({ tmps := vs ++ Array.replicate (fn.ntmps - vs.size) undef, defers := [] } : Act).put o.dst v) (c' :: cs) w := by
      intro v c' u'' hv hc' hu''
      have fr1 := fr0.put (some ct.slot) (fun k hk => by injection hk with hk; subst hk; exact f4) (RelV.pd v r hv) inv (Ext.refl _ _ _ _)
      rw [hdst]
      have fin : ∀ (G1 : Gh) (st1 : St) (a1 : Act) (w1 : World) (ly1 : Ly), Fr fn.ntmps [] G st w G1 st1 w1 a1 ly1 → st1.take st.length = st' → a1.defers = [] ∧ ∃ u2, c' :: cs = { c₀ with mode := u2 } :: cs ∧ ∃ v, (results fn a1.tmps).run P w1 = .ok v w1 ∧
          ((∃ x, Ending.returned v = .returned x) ∧ u2 = u' ∧ ∃ G', Inv G' st' w1 ∧ Ext st.length G st w G' st' w1) := by
        intro G1 st1 a1 w1 ly1 fr2 hst
        refine ⟨fr2.defers, u'', by rw [hc'], _, run_results (P := P) (w := w1) (fn := fn) (tmps := a1.tmps) [] [] (by rw [f6]) (by simp) rfl (by simp), ⟨_, rfl⟩, hu'', G1, ?_, ?_⟩
        · rw [← hst]; exact fr2.inv.take fr2.ext.len (fr2.ext.age _ (Nat.le_refl _) inv.low)
        · rw [← hst]; exact fr2.ext.take (Nat.le_refl _)
      refine wpS_of_wp ?_
      split at hrun
      · rename_i ly1 st1 hb
        injection hrun with hrun
        exact code_sound hcall hplain hm rest ct.body f5 _ .norm _ _ _ _ _ _ _ fr1 hb fun G1 a1 w1 fr2 => fin G1 st1 a1 w1 _ fr2 hrun
      · rename_i ly1 st1 hb
        injection hrun with hrun
        exact code_sound hcall hplain hm rest ct.body f5 _ .ret _ _ _ _ _ _ _ fr1 hb fun G1 a1 w1 fr2 => fin G1 st1 a1 w1 _ fr2 hrun
      · cases hrun
    rcases hu with ⟨rfl, rfl, rfl⟩ | ⟨v, rfl, hv, rfl⟩
    · have hrec : recoverD (c₀ :: cs) = none := by simp only [recoverD, hc0]
      simp only [hrec]
      exact go .nilIface c₀ .returning .nilif (by rw [← hc0]) rfl
    · have hrec : recoverD (c₀ :: cs) = some (v, { c₀ with mode := .panicking [{ v, recovered := true }] } :: cs) := by simp only [recoverD, hc0]
      simp only [hrec]
      exact go v _ _ hv rfl rfl
  · cases hrun

theorem enterD_sound (hcall : CallOK P call) (hplain : CallPlain P call) (hm : P.follows .mixedOrders = true) {f : FuncId} {df : DFn} (hf : DFits P f df) {xs : List AV} {r : ARes} {st' : St} {tm : Nat} {vs : Array Value}
    (hrun : df.enter call xs st = some (r, st')) (inv : Inv G st w) (htm : tm ≤ st.length) (hl : vs.size = xs.length) (hr : ∀ (k : Nat) (v : Value) (x : AV), vs[k]? = some v → xs[k]? = some x → RelV G st v x) :
    Calls P f vs w (Came tm G st w r st') := by
  obtain ⟨fn, c, h, rs, g, f1, f2, f3, f4, f5, f6, f7, f8⟩ := hf
  unfold DFn.enter at hrun
  split at hrun
  · rename_i hnp
    refine calls_of_wp_defers f1 f2 ?_
    have fr := fr_entry (fn := fn) inv hl (by omega) hr
    have fin : ∀ (ly : Ly) (st1 : St) (a : Act) (w1 : World) (G1 : Gh), EnvRel G1 st1 a ly → Inv G1 st1 w1 → Ext st.length G st w G1 st1 w1 → back df.md df.res st.length ly st1 = some (r, st') →
        ∃ v, (results fn a.tmps).run P w1 = .ok v w1 ∧ Came tm G st w r st' (.returned v) w1 := by
      intro ly st1 a w1 G1 he hi hx hb
      unfold back at hb
      split at hb
      · rename_i ys h1
        obtain ⟨us, g1, g2, g3, g4⟩ := res_rel (P := P) hi he rs df.res ys f6 h1
        obtain ⟨x, G', rfl, k1, k2, k3⟩ := leave_rel hi hx inv.low g2 g4 hb
        exact ⟨oneV us, run_results rs us f4 f5 g1 g3, oneV us, G', rfl, k1, k2, k3.weaken htm⟩
      · cases hb
    have late : ∀ (ly : Ly) (st1 : St) (ys : List AV) (p : PD) (u : FrameMode) (G1 : Gh) (st0 : St) (w0 : World) (us : Array Value), Ext st.length G st w G1 st0 w0 → us.size = ys.length → (∀ (k : Nat) (v : Value) (y : AV), us[k]? = some v → ys[k]? = some y → RelV G1 st0 v y) →
        (∃ st2, df.ct.run call p ys st1 = some st2 ∧ back df.md df.res st.length ly st2 = some (r, st')) →
        ∀ (G2 : Gh) (a : Act) (w2 : World), Fr fn.ntmps [{ target := .fn (.func g) #[], args := us }] G1 st0 w0 G2 st1 w2 a ly →
        ((u = .returning ∧ p = .nilif) ∨ ∃ v, u = .panicking [{ v, recovered := false }] ∧ RelP G2.M v p) → Leaves P fn a.tmps (Came tm G st w r st') a.defers u w2 := by
      intro ly st1 ys p u G1 st0 w0 us hx hus hrel ⟨st2, hct, hbk⟩ G2 a w2 fr2 hu
      rw [fr2.defers]
      have hgf : plainF P g = true := by obtain ⟨_, _, _, _, _, _, _, _, _, _, _, hp⟩ := f8; exact hp
      have hrun : ∀ u', ((u = .returning ∧ p = .nilif ∧ u' = .returning) ∨ ∃ v, u = .panicking [{ v, recovered := false }] ∧ RelP G2.M v p ∧ u' = .panicking [{ v, recovered := true }]) → settle u' = .returning → u ≠ .run →
          Leaves P fn a.tmps (Came tm G st w r st') [{ target := .fn (.func g) #[], args := us }] u w2 := by
        intro u' hu' hset hne
        refine leaves_cons (f := g) (args := us) hne (by simp only [invoke, Array.append_empty]; exact run_callFunc hgf) ?_
        refine (caught_sound hcall hplain hm f8 hct fr2.inv hus (fun k v y hv hy => (hrel k v y hv hy).ext fr2.ext) hu').mono fun e u2 w3 ⟨⟨x, hx3⟩, hu2, G3, i3, e3⟩ => ?_
        subst hx3
        subst hu2
        show Leaves P fn a.tmps (Came tm G st w r st') [] (settle u2) w3
        rw [hset]
        have hlen : st.length ≤ st0.length := hx.len
        have hlen2 : st.length ≤ st1.length := Nat.le_trans hlen fr2.ext.len
        exact fin ly st2 a w3 G3 (fr2.env.ext e3) i3 ((hx.trans (fr2.ext.weaken hlen)).trans (e3.weaken hlen2)) hbk
      rcases hu with ⟨rfl, rfl⟩ | ⟨v, rfl, hv⟩
      · exact hrun .returning (.inl ⟨rfl, rfl, rfl⟩) rfl (by simp)
      · exact hrun _ (.inr ⟨v, rfl, hv, rfl⟩) rfl (by simp)
    split at hrun
    · rename_i ly st1 hb
      exact dc_sound hcall hplain hm c g df.code f3 _ _ _ _ _ _ _ fr hb fun G1 a w1 fr1 => by
        show Leaves P fn a.tmps _ a.defers .returning w1
        rw [fr1.defers]; exact fin ly st1 a w1 G1 fr1.env fr1.inv fr1.ext hrun
    · rename_i ly st1 hb
      exact dc_sound hcall hplain hm c g df.code f3 _ _ _ _ _ _ _ fr hb fun G1 a w1 fr1 => by
        show Leaves P fn a.tmps _ a.defers .returning w1
        rw [fr1.defers]; exact fin ly st1 a w1 G1 fr1.env fr1.inv fr1.ext hrun
    · rename_i p ly st1 hb
      simp only [Option.some.injEq, Prod.mk.injEq] at hrun
      obtain ⟨rfl, rfl⟩ := hrun
      exact dc_sound hcall hplain hm c g df.code f3 _ _ _ _ _ _ _ fr hb fun v G1 a w1 hv fr1 => by
        show Leaves P fn a.tmps _ a.defers (.panicking [{ v, recovered := false }]) w1
        rw [fr1.defers]
        exact ⟨v, G1, rfl, hv, fr1.inv.take fr1.ext.len (fr1.ext.age _ (Nat.le_refl _) inv.low), (fr1.ext.take (Nat.le_refl _)).weaken htm⟩
    · rename_i ly st1 ys hb
      refine dc_sound hcall hplain hm c g df.code f3 _ _ _ _ _ _ _ fr hb fun G1 st0 w0 us hx hus hrel G2 a w2 fr2 => ?_
      refine late ly st1 ys .nilif .returning G1 st0 w0 us hx hus hrel ?_ G2 a w2 fr2 (.inl ⟨rfl, rfl⟩)
      split at hrun
      · rename_i st2 h2; exact ⟨st2, h2, hrun⟩
      · cases hrun
    · rename_i ly st1 ys hb
      refine dc_sound hcall hplain hm c g df.code f3 _ _ _ _ _ _ _ fr hb fun G1 st0 w0 us hx hus hrel G2 a w2 fr2 => ?_
      refine late ly st1 ys .nilif .returning G1 st0 w0 us hx hus hrel ?_ G2 a w2 fr2 (.inl ⟨rfl, rfl⟩)
      split at hrun
      · rename_i st2 h2; exact ⟨st2, h2, hrun⟩
      · cases hrun
    · rename_i p ly st1 ys hb
      refine dc_sound hcall hplain hm c g df.code f3 _ _ _ _ _ _ _ fr hb fun G1 st0 w0 us hx hus hrel v G2 a w2 hv fr2 => ?_
      refine late ly st1 ys p (.panicking [{ v, recovered := false }]) G1 st0 w0 us hx hus hrel ?_ G2 a w2 fr2 (.inr ⟨v, rfl, hv⟩)
      split at hrun
      · rename_i st2 h2; exact ⟨st2, h2, hrun⟩
      · cases hrun
    · cases hrun
  · cases hrun
end
end Go.Proofs.Kh
