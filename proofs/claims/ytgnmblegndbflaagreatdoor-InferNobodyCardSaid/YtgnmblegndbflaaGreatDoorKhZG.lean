/- A piece of code does what the machine's does. -/
import Derived.Test.YtgnmblegndbflaaGreatDoorKhZF
import Derived.LoopN
import Derived.Scope
namespace Go.Proofs.Kh
set_option linter.all false
set_option linter.unusedVariables false
set_option linter.unusedSimpArgs false
open Go

def normOps (P : Program) (h : Hints) (N : Nat) (ops : Array Oper) : List Oper → Option (List AO)
  | [] => some []
  | o :: r => match normAO P h N ops o, normOps P h N ops r with
    | some x, some xs => some (x :: xs)
    | _, _ => none

def orderOf : List (Nat × List (Nat × Bool)) → Nat → Nat → List (Nat × Bool)
  | [], _, n => (List.range n).map fun i => (i, false)
  | (k, l) :: r, id, n => if k = id then l else orderOf r id n

/-- A piece that has no form: whoever comes to it stands still. -/
def badC : ACode := .cond (.c .nil) .skip .skip

theorem badC_run (call : CallF) (ly : Ly) (st : St) : badC.run call ly st = none := rfl

def normCode (P : Program) (h : Hints) (N : Nat) : Code → Option ACode
  | .skip => some .skip
  | .region id ops draw => if draw then (match normDrawI P h N ops [] (orderOf h.od id ops.size) with
      | some dl => some (.regd (dl.map DI.todo))
      | none => some badC)
    else (match normOps P h N ops ops.toList with
      | some os => some (.reg os)
      | none => some badC)
  | .seq a b => match normCode P h N a, normCode P h N b with
    | some x, some y => some (.seq x y)
    | _, _ => none
  | .cond c a b => match opd c, normCode P h N a, normCode P h N b with
    | some c, some x, some y => some (.cond c x y)
    | _, _, _ => none
  | .block id b => match normCode P h N b with
    | some x => some (.block id x)
    | none => none
  | .loop b => match normCode P h N b with
    | some x => some (.loop x)
    | none => none
  | .exit id => some (.exit id)
  | .ret => some .ret
  | .scope b => normCode P h N b
  | .label _ => some .skip
  | _ => some badC

section
variable {P : Program} {h : Hints} {N : Nat} {ops : Array Oper} {call : CallF} {ly : Ly} {st : St}
variable {ds : List Deferred} {G0 : Gh} {st0 : St} {w0 : World} {a : Act} {w : World} {G : Gh}

theorem ops_sound (hcall : CallOK P call) (hplain : CallPlain P call) {Q : Exit → Act → World → Prop} {x : AX} {lyF : Ly} {stF : St} (hl : Lands N ds G0 st0 w0 Q x lyF stF) : ∀ (l : List Oper) (os : List AO) (k : Nat) (ly : Ly) (st : St) (a : Act) (w : World) (G : Gh),
    (∀ j, l[j]? = ops[k + j]?) → normOps P h N ops l = some os → Fr N ds G0 st0 w0 G st w a ly → runOps call os ly st = some (x, lyF, stF) → wpOps P ops Q (List.range' k l.length) a w
  | [], os, k, ly, st, a, w, G, hk, hn, fr, hr => by
    simp only [normOps, Option.some.injEq] at hn
    subst hn
    simp only [runOps, Option.some.injEq, Prod.mk.injEq] at hr
    obtain ⟨rfl, rfl, rfl⟩ := hr
    exact hl G a w fr
  | o :: r, os, k, ly, st, a, w, G, hk, hn, fr, hr => by
    simp only [normOps] at hn
    split at hn
    · rename_i ao aos h1 h2
      injection hn with hn; subst hn
      have ho : ops[k]? = some o := by simpa using (hk 0).symm
      have hk' : ∀ j, r[j]? = ops[k + 1 + j]? := fun j => by have := hk (j + 1); simpa [Nat.add_assoc, Nat.add_comm 1 j] using this
      obtain ⟨n1, n2, n3, n4⟩ := normAO_inv h1
      have henv : EnvOn ao.slots G st a ly := fun s x _ hx => fr.env s x hx
      rw [List.length_cons, List.range'_succ, wpOps_cons]
      unfold wpOp
      simp only [ho]
      simp only [runOps] at hr
      split at hr
      · rename_i hw
        rw [wanted_rel h1 henv hw]
        simp only [if_true]
        refine .inl ?_
        split at hr
        · rename_i y st' hrun
          refine op_on hcall hplain h1 henv fr.inv fr.top.1 hrun ⟨fun z hz v G' w' r1 r2 r3 => ?_, fun p hx => by cases hx⟩
          injection hz with hz; subst hz
          have := fr.put ao.dst (fun d hd => n4 d (by rw [← n3]; exact hd)) r1 r2 r3
          rw [← n3]
          exact ops_sound hcall hplain hl r aos (k + 1) _ _ _ _ _ hk' h2 this hr
        · rename_i p st' hrun
          simp only [Option.some.injEq, Prod.mk.injEq] at hr
          obtain ⟨rfl, rfl, rfl⟩ := hr
          refine op_on hcall hplain h1 henv fr.inv fr.top.1 hrun ⟨fun z hz => (by cases hz), fun p' hx v G' w' r1 r2 r3 => ?_⟩
          injection hx with hx; subst hx
          exact hl v G' a w' r1 (fr.still r2 r3)
        · cases hr
      · rename_i hw
        rw [wanted_rel h1 henv hw]
        simp only [Bool.false_eq_true, if_false]
        have := fr.put ao.dst (fun d hd => n4 d (by rw [← n3]; exact hd)) (v := undef) (x := .tup []) (.tup #[] [] rfl fun k v c h => by simp at h) fr.inv (Ext.refl _ _ _ _)
        rw [← n3]
        exact ops_sound hcall hplain hl r aos (k + 1) _ _ _ _ _ hk' h2 this hr
      · cases hr
    · cases hn

theorem Fr.push (fr : Fr N ds G0 st0 w0 G st w a ly) : Fr N ds G0 st0 w0 G st w a ((st.length, []) :: ly) := by
  refine ⟨fun s x hx => fr.env s x (by simpa [Ly.get, Env.get] using hx), fr.inv, fr.size, fr.defers, ⟨fun s x hx => ?_, fun p hp => (fr.low p.1 p.2 hp).2.1, fr.fits⟩, fun k e hk => ?_, by simp, fr.ext⟩
  · obtain ⟨v, h1, h2⟩ := fr.env s x hx
    exact ⟨h2.und, rfl⟩
  · cases hk with
    | head => exact ⟨fr.inv.low, Nat.le_refl _, fr.ext.len⟩
    | tail _ hk => exact fr.low k e hk

theorem Fr.pop {m : Nat} {e : Env} {l : Nat × Env} {ls : Ly} (fr : Fr N ds G0 st0 w0 G st w a ((m, e) :: l :: ls)) : Fr N ds G0 st0 w0 G (st.take m) w a (l :: ls) := by
  obtain ⟨h1, h2, h3⟩ := fr.low m e (by simp)
  obtain ⟨f1, f2, f3⟩ := fr.fits
  refine ⟨fun s x hx => ?_, fr.inv.take h2 h1, fr.size, fr.defers, f3, fun k e' hk => ?_, by simp, fr.ext.take h3⟩
  · obtain ⟨g1, g2⟩ := f1 s x hx
    obtain ⟨v, g3, g4⟩ := fr.env s x (by simp only [Ly.get, g2]; exact hx)
    exact ⟨v, g3, g4.take h2 g1⟩
  · obtain ⟨g1, g2, g3⟩ := fr.low k e' (by simp [hk])
    exact ⟨g1.take m, by rw [List.length_take]; have := f2 _ hk; simp only at this; omega, g3⟩

theorem loop_sound {c : Code} {body : Ly → St → Option CRes} (hb : ∀ (Q : Exit → Act → World → Prop) (x : AX) (ly : Ly) (st : St) (a : Act) (w : World) (G : Gh) (lyF : Ly) (stF : St), Fr N ds G0 st0 w0 G st w a ly → body ly st = some (x, lyF, stF) →
      Lands N ds G0 st0 w0 Q x lyF stF → c.wp P Q a w) {Q : Exit → Act → World → Prop} {x : AX} {lyF : Ly} {stF : St} (hl : Lands N ds G0 st0 w0 Q x lyF stF) :
    ∀ (n : Nat) (ly : Ly) (st : St) (a : Act) (w : World) (G : Gh), Fr N ds G0 st0 w0 G st w a ly → loopRun body n ly st = some (x, lyF, stF) → Code.rounds P c Q n a w
  | 0, _, _, _, _, _, _, hr => by cases hr
  | n + 1, ly, st, a, w, G, fr, hr => by
    rw [rounds_succ]
    cases hbb : body ((st.length, []) :: ly) st with
    | none => simp [loopRun, hbb] at hr
    | some y =>
      obtain ⟨y, ly', st'⟩ := y
      simp only [loopRun, hbb] at hr
      refine hb _ y _ st a w G ly' st' fr.push hbb ?_
      cases y with
      | norm =>
        match ly' with
        | [] => simp at hr
        | [_] => simp at hr
        | (m, e) :: l :: ls => exact fun G' a' w' fr' => loop_sound hb hl n _ _ a' w' G' fr'.pop hr
      | exit id =>
        match ly' with
        | [] => simp at hr
        | [_] => simp at hr
        | (m, e) :: l :: ls =>
          simp only [Option.some.injEq, Prod.mk.injEq] at hr
          obtain ⟨rfl, rfl, rfl⟩ := hr
          exact fun G' a' w' fr' => hl G' a' w' fr'.pop
      | ret =>
        simp only [Option.some.injEq, Prod.mk.injEq] at hr
        obtain ⟨rfl, rfl, rfl⟩ := hr
        exact hl
      | pan p =>
        simp only [Option.some.injEq, Prod.mk.injEq] at hr
        obtain ⟨rfl, rfl, rfl⟩ := hr
        exact hl

theorem code_sound (hcall : CallOK P call) (hplain : CallPlain P call) (hm : P.follows .mixedOrders = true) : ∀ (c : Code) (ac : ACode), normCode P h N c = some ac → ∀ (Q : Exit → Act → World → Prop) (x : AX) (ly : Ly) (st : St) (a : Act) (w : World) (G : Gh) (lyF : Ly) (stF : St),
    Fr N ds G0 st0 w0 G st w a ly → ac.run call ly st = some (x, lyF, stF) → Lands N ds G0 st0 w0 Q x lyF stF → c.wp P Q a w := by
  intro c
  induction c with
  | skip =>
    intro ac hn Q x ly st a w G lyF stF fr hr hl
    simp only [normCode, Option.some.injEq] at hn; subst hn
    simp only [ACode.run, Option.some.injEq, Prod.mk.injEq] at hr
    obtain ⟨rfl, rfl, rfl⟩ := hr
    exact wp_skip (hl G a w fr)
  | region id ops draw =>
    intro ac hn Q x ly st a w G lyF stF fr hr hl
    simp only [normCode] at hn
    split at hn
    · rename_i hd
      split at hn
      · rename_i dl hdl
        injection hn with hn; subst hn
        subst hd
        exact draw_sound hcall hplain hm hdl (by simpa only [ACode.run] using hr) fr hl
      · injection hn with hn; subst hn
        rw [badC_run] at hr; cases hr
    · rename_i hd
      split at hn
      · rename_i os hos
        injection hn with hn; subst hn
        have hd : draw = false := by simpa using hd
        subst hd
        refine wp_region ?_
        have := ops_sound hcall hplain hl ops.toList os 0 ly st a w G (fun j => by simp) hos fr (by simpa only [ACode.run] using hr)
        rw [List.range_eq_range']
        simpa using this
      · injection hn with hn; subst hn
        rw [badC_run] at hr; cases hr
  | seq c1 c2 ih1 ih2 =>
    intro ac hn Q x ly st a w G lyF stF fr hr hl
    simp only [normCode] at hn
    split at hn
    · rename_i x1 x2 h1 h2
      injection hn with hn; subst hn
      simp only [ACode.run] at hr
      refine wp_seq ?_
      split at hr
      · rename_i ly1 st1 hr1
        exact ih1 x1 h1 _ .norm ly st a w G ly1 st1 fr hr1 fun G' a' w' fr' => ih2 x2 h2 Q x ly1 st1 a' w' G' lyF stF fr' hr hl
      · rename_i hne
        refine ih1 x1 h1 _ x ly st a w G lyF stF fr hr ?_
        cases x with
        | norm => exact (hne _ _ hr).elim
        | exit id => exact hl
        | ret => exact hl
        | pan p => exact hl
    · cases hn
  | cond o c1 c2 ih1 ih2 =>
    intro ac hn Q x ly st a w G lyF stF fr hr hl
    simp only [normCode] at hn
    split at hn
    · rename_i oo x1 x2 h0 h1 h2
      injection hn with hn; subst hn
      simp only [ACode.run] at hr
      split at hr
      · rename_i hv
        have := (ev_rel fr.env h0 hv).pd_inv
        exact wp_cond_true this.bool_inv (ih1 x1 h1 Q x ly st a w G lyF stF fr hr hl)
      · rename_i hv
        have := (ev_rel fr.env h0 hv).pd_inv
        exact wp_cond_false this.bool_inv (ih2 x2 h2 Q x ly st a w G lyF stF fr hr hl)
      · cases hr
    · cases hn
  | block id c1 ih1 =>
    intro ac hn Q x ly st a w G lyF stF fr hr hl
    simp only [normCode] at hn
    split at hn
    · rename_i x1 h1
      injection hn with hn; subst hn
      simp only [ACode.run] at hr
      refine wp_block ?_
      split at hr
      · rename_i j ly1 st1 hr1
        refine ih1 x1 h1 _ (.exit j) ly st a w G ly1 st1 fr hr1 fun G' a' w' fr' => ?_
        split at hr
        · rename_i hj
          simp only [Option.some.injEq, Prod.mk.injEq] at hr
          obtain ⟨rfl, rfl, rfl⟩ := hr
          simp only [Exit.inBlock, hj, if_true]
          exact hl G' a' w' fr'
        · rename_i hj
          simp only [Option.some.injEq, Prod.mk.injEq] at hr
          obtain ⟨rfl, rfl, rfl⟩ := hr
          simp only [Exit.inBlock, hj, if_false]
          exact hl G' a' w' fr'
      · rename_i hne
        refine ih1 x1 h1 _ x ly st a w G lyF stF fr hr ?_
        cases x with
        | norm => exact hl
        | exit j => exact (hne _ _ _ hr).elim
        | ret => exact hl
        | pan p => exact hl
    · cases hn
  | loop c1 ih1 =>
    intro ac hn Q x ly st a w G lyF stF fr hr hl
    simp only [normCode] at hn
    split at hn
    · rename_i x1 h1
      injection hn with hn; subst hn
      simp only [ACode.run] at hr
      obtain ⟨n, hn⟩ := lim_some hr
      exact wp_loop_rounds n (loop_sound (fun Q x ly st a w G lyF stF fr hr hl => ih1 x1 h1 Q x ly st a w G lyF stF fr hr hl) hl n ly st a w G fr hn)
    · cases hn
  | exit id =>
    intro ac hn Q x ly st a w G lyF stF fr hr hl
    simp only [normCode, Option.some.injEq] at hn; subst hn
    simp only [ACode.run, Option.some.injEq, Prod.mk.injEq] at hr
    obtain ⟨rfl, rfl, rfl⟩ := hr
    exact wp_exit (hl G a w fr)
  | ret =>
    intro ac hn Q x ly st a w G lyF stF fr hr hl
    simp only [normCode, Option.some.injEq] at hn; subst hn
    simp only [ACode.run, Option.some.injEq, Prod.mk.injEq] at hr
    obtain ⟨rfl, rfl, rfl⟩ := hr
    exact wp_ret (hl G a w fr)
  | scope c1 ih1 =>
    intro ac hn Q x ly st a w G lyF stF fr hr hl
    simp only [normCode] at hn
    refine wp_scope_straight (ih1 ac hn _ x ly st a w G lyF stF fr hr ?_)
    cases x with
    | norm => exact hl
    | exit id => exact hl
    | ret => exact hl
    | pan p => exact hl
  | label l =>
    intro ac hn Q x ly st a w G lyF stF fr hr hl
    simp only [normCode, Option.some.injEq] at hn; subst hn
    simp only [ACode.run, Option.some.injEq, Prod.mk.injEq] at hr
    obtain ⟨rfl, rfl, rfl⟩ := hr
    exact wp_label (hl G a w fr)
  | _ =>
    intro ac hn Q x ly st a w G lyF stF fr hr hl
    simp only [normCode, Option.some.injEq] at hn; subst hn
    rw [badC_run] at hr; cases hr
end
end Go.Proofs.Kh
