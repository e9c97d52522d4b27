/- What a call comes to with as many calls as it takes: each function is what it does with such calls. -/
import Derived.Test.YtgnmblegndbflaaGreatDoorKhZM
namespace Go.Proofs.Kh
set_option linter.all false
set_option linter.unusedVariables false
set_option linter.unusedSimpArgs false
open Go

def CallLe (c d : CallF) : Prop := ∀ f xs st r, c f xs st = some r → d f xs st = some r

theorem callIn_le {c d : CallF} (h : CallLe c d) : CallLe (callIn c) (callIn d) := by
  intro f xs st r hr
  unfold callIn at hr ⊢
  split at hr
  · rename_i ha
    rw [if_pos ha]
    unfold pureCall at hr ⊢
    split at hr
    · rename_i h0; rw [h _ _ _ _ h0]; exact hr
    · cases hr
  · rename_i ha
    rw [if_neg ha]
    exact h _ _ _ _ hr

theorem AOp.run_mono {c d : CallF} (h : CallLe c d) {o : AOp} {ly : Ly} {st : St} {r : Out} (hr : o.run c ly st = some r) : o.run d ly st = some r := by
  cases o with
  | call f xs =>
    simp only [AOp.run] at hr ⊢
    split at hr
    · rename_i ys hy; (try simp only [hy]); exact callIn_le h _ _ _ _ hr
    · cases hr
  | callr f xs =>
    simp only [AOp.run] at hr ⊢
    split at hr
    · rename_i ys hy; (try simp only [hy]); exact h _ _ _ _ hr
    · cases hr
  | callv f xs =>
    simp only [AOp.run] at hr ⊢
    split at hr
    · rename_i g ys hf hy; (try simp only [hf, hy]); exact callIn_le h _ _ _ _ hr
    · rename_i g fs cs ys hf hy; (try simp only [hf, hy]); exact callIn_le h _ _ _ _ hr
    · cases hr
  | _ => exact hr

theorem runOps_mono {c d : CallF} (h : CallLe c d) : ∀ (os : List AO) (ly : Ly) (st : St) (r : CRes), runOps c os ly st = some r → runOps d os ly st = some r
  | [], _, _, _, hr => hr
  | o :: os, ly, st, r, hr => by
    simp only [runOps] at hr ⊢
    split at hr
    · rename_i hw
      try simp only [hw]
      split at hr
      · rename_i x st' hx
        simp only [AOp.run_mono h hx]
        exact runOps_mono h os _ _ r hr
      · rename_i p st' hx
        simp only [AOp.run_mono h hx]
        exact hr
      · cases hr
    · rename_i hw
      try simp only [hw]
      exact runOps_mono h os _ _ r hr
    · cases hr

theorem again_mono {c d : CallF} (h : CallLe c d) {ly : Ly} {st : St} : ∀ (os : List AO), again c ly st os → again d ly st os
  | [], _ => trivial
  | o :: os, hr => by
    obtain ⟨h1, h2⟩ := hr
    refine ⟨?_, again_mono h os h2⟩
    split
    · rename_i hw
      rw [hw] at h1
      obtain ⟨x, g1, g2⟩ := h1
      exact ⟨x, AOp.run_mono h g1, g2⟩
    · trivial
    · rename_i hw; rw [hw] at h1; exact h1

theorem runDraw_mono {c d : CallF} (h : CallLe c d) : ∀ (os : List DO) (ly : Ly) (st : St) (r : CRes), runDraw c os ly st = some r → runDraw d os ly st = some r
  | [], _, _, _, hr => hr
  | o :: os, ly, st, r, hr => by
    simp only [runDraw] at hr ⊢
    split at hr
    · rename_i hw
      try simp only [hw]
      split at hr
      · rename_i x st' hx
        simp only [AOp.run_mono h hx]
        split at hr
        · rename_i hc
          split at hr
          · rename_i ha
            rw [if_pos hc, if_pos (again_mono h _ ha)]
            exact runDraw_mono h os _ _ r hr
          · cases hr
        · rename_i hc
          split at hr
          · rename_i ha
            rw [if_neg hc, if_pos ha]
            exact runDraw_mono h os _ _ r hr
          · cases hr
      · rename_i p st' hx
        simp only [AOp.run_mono h hx]
        exact hr
      · cases hr
    · rename_i hw
      try simp only [hw]
      exact runDraw_mono h os _ _ r hr
    · cases hr

theorem loopRun_body {b b' : Ly → St → Option CRes} (h : ∀ ly st r, b ly st = some r → b' ly st = some r) : ∀ (n : Nat) (ly : Ly) (st : St) (r : CRes), loopRun b n ly st = some r → loopRun b' n ly st = some r
  | 0, _, _, _, hr => hr
  | n + 1, ly, st, r, hr => by
    cases hb : b ((st.length, []) :: ly) st with
    | none => simp [loopRun, hb] at hr
    | some y =>
      have hb' := h _ _ _ hb
      obtain ⟨y, ly', st'⟩ := y
      simp only [loopRun, hb] at hr
      simp only [loopRun, hb']
      cases y with
      | norm =>
        match ly' with
        | [] => simp at hr
        | [_] => simp at hr
        | (m, e) :: l :: ls => exact loopRun_body h n _ _ r hr
      | exit id =>
        match ly' with
        | [] => simp at hr
        | [_] => simp at hr
        | (m, e) :: l :: ls => exact hr
      | ret => exact hr
      | pan p => exact hr

theorem loopLim_body {b b' : Ly → St → Option CRes} (h : ∀ ly st r, b ly st = some r → b' ly st = some r) {ly : Ly} {st : St} {r : CRes} (hr : loopLim b ly st = some r) : loopLim b' ly st = some r := by
  obtain ⟨n, hn⟩ := lim_some hr
  exact lim_eq (loopRun_mono b' · ly st) (loopRun_body h n ly st r hn)

theorem ACode.run_mono {c d : CallF} (h : CallLe c d) : ∀ (ac : ACode) (ly : Ly) (st : St) (r : CRes), ac.run c ly st = some r → ac.run d ly st = some r := by
  intro ac
  induction ac with
  | skip => exact fun _ _ _ hr => hr
  | seq a b iha ihb =>
    intro ly st r hr
    simp only [ACode.run] at hr ⊢
    cases ha : a.run c ly st with
    | none => simp [ha] at hr
    | some y =>
      rw [ha] at hr
      rw [iha _ _ _ ha]
      obtain ⟨y, ly1, st1⟩ := y
      cases y with
      | norm => exact ihb _ _ _ hr
      | _ => exact hr
  | reg os => intro ly st r hr; exact runOps_mono h os ly st r hr
  | regd os => intro ly st r hr; exact runDraw_mono h os ly st r hr
  | cond o a b iha ihb =>
    intro ly st r hr
    simp only [ACode.run] at hr ⊢
    split at hr
    · rename_i hv; (try simp only [hv]); exact iha _ _ _ hr
    · rename_i hv; (try simp only [hv]); exact ihb _ _ _ hr
    · cases hr
  | block id b ih =>
    intro ly st r hr
    simp only [ACode.run] at hr ⊢
    cases hb : b.run c ly st with
    | none => simp [hb] at hr
    | some y =>
      rw [hb] at hr
      rw [ih _ _ _ hb]
      exact hr
  | loop b ih => intro ly st r hr; exact loopLim_body ih hr
  | exit id => exact fun _ _ _ hr => hr
  | ret => exact fun _ _ _ hr => hr

theorem AFn.enter_mono {c d : CallF} (h : CallLe c d) {af : AFn} {xs : List AV} {st : St} {r : Out} (hr : af.enter c xs st = some r) : af.enter d xs st = some r := by
  unfold AFn.enter at hr ⊢
  split at hr
  · rename_i hn
    rw [if_pos hn]
    cases hb : af.body.run c [(st.length, params 0 xs)] st with
    | none => simp [hb] at hr
    | some y =>
      rw [hb] at hr
      rw [ACode.run_mono h _ _ _ _ hb]
      exact hr
  · cases hr

theorem DC.run_mono {c d : CallF} (h : CallLe c d) : ∀ (dc : DC) (ly : Ly) (st : St) (r : DRes), dc.run c ly st = some r → dc.run d ly st = some r
  | .seq a r, ly, st, x, hr => by
    simp only [DC.run] at hr ⊢
    cases ha : a.run c ly st with
    | none => simp [ha] at hr
    | some y =>
      rw [ha] at hr
      rw [ACode.run_mono h _ _ _ _ ha]
      obtain ⟨y, ly1, st1⟩ := y
      cases y with
      | norm => exact DC.run_mono h r _ _ _ hr
      | _ => exact hr
  | .dfr xs post, ly, st, x, hr => by
    simp only [DC.run] at hr ⊢
    split at hr
    · split at hr
      · rename_i ys hy
        (try simp only [hy])
        cases hp : post.run c _ st with
        | none => rw [hp] at hr; cases hr
        | some z => rw [hp] at hr; rw [ACode.run_mono h _ _ _ _ hp]; exact hr
      · cases hr
    · cases hr

theorem CFn.run_mono {c d : CallF} (h : CallLe c d) {ct : CFn} {r : PD} {ys : List AV} {st st' : St} (hr : ct.run c r ys st = some st') : ct.run d r ys st = some st' := by
  unfold CFn.run at hr ⊢
  split at hr
  · rename_i hn
    rw [if_pos hn]
    cases hb : ct.body.run c (putO st [(st.length, params 0 ys)] (some ct.slot) (.pd r)) st with
    | none => simp [hb] at hr
    | some y => rw [hb] at hr; rw [ACode.run_mono h _ _ _ _ hb]; exact hr
  · cases hr

theorem DFn.enter_mono {c d : CallF} (h : CallLe c d) {df : DFn} {xs : List AV} {st : St} {r : Out} (hr : df.enter c xs st = some r) : df.enter d xs st = some r := by
  unfold DFn.enter at hr ⊢
  split at hr
  · rename_i hn
    rw [if_pos hn]
    cases hb : df.code.run c [(st.length, params 0 xs)] st with
    | none => simp [hb] at hr
    | some y =>
      rw [hb] at hr
      rw [DC.run_mono h _ _ _ _ hb]
      obtain ⟨x, ly, st1, o⟩ := y
      cases o with
      | none => cases x <;> exact hr
      | some ys =>
        cases x with
        | norm =>
          simp only at hr ⊢
          cases hc : df.ct.run c .nilif ys st1 with
          | none => simp [hc] at hr
          | some st2 => rw [hc] at hr; rw [CFn.run_mono h hc]; exact hr
        | ret =>
          simp only at hr ⊢
          cases hc : df.ct.run c .nilif ys st1 with
          | none => simp [hc] at hr
          | some st2 => rw [hc] at hr; rw [CFn.run_mono h hc]; exact hr
        | pan p =>
          simp only at hr ⊢
          cases hc : df.ct.run c p ys st1 with
          | none => simp [hc] at hr
          | some st2 => rw [hc] at hr; rw [CFn.run_mono h hc]; exact hr
        | exit id => exact hr
  · cases hr

/-- A function, with a deferred call, or without. -/
inductive FX where
  | a (af : AFn)
  | d (df : DFn)

noncomputable def FX.enter (call : CallF) : FX → List AV → St → Option Out
  | .a af => af.enter call
  | .d df => df.enter call

theorem FX.enter_mono {c d : CallF} (h : CallLe c d) {fx : FX} {xs : List AV} {st : St} {r : Out} (hr : fx.enter c xs st = some r) : fx.enter d xs st = some r := by
  cases fx with
  | a af => exact AFn.enter_mono h hr
  | d df => exact DFn.enter_mono h hr

def XFits (P : Program) (f : FuncId) : FX → Prop
  | .a af => Fits P f af
  | .d df => DFits P f df

/-- What a call comes to, n calls deep at most: those of the table; else what is known of them. -/
noncomputable def acall (T : FuncId → Option FX) (prim : CallF) : Nat → CallF
  | 0 => fun _ _ _ => none
  | n + 1 => fun f xs st => match T f with
    | some fx => fx.enter (acall T prim n) xs st
    | none => prim f xs st

theorem acall_ok {P : Program} {T : FuncId → Option FX} {prim : CallF} (hm : P.follows .mixedOrders = true) (hT : ∀ f fx, T f = some fx → XFits P f fx ∧ plainF P f = true) (hp : CallOK P prim) (hpp : CallPlain P prim) : ∀ n, CallOK P (acall T prim n) ∧ CallPlain P (acall T prim n)
  | 0 => ⟨fun _ _ _ _ _ _ _ _ _ h => (by cases h), fun _ _ _ _ h => (by cases h)⟩
  | n + 1 => by
    obtain ⟨i1, i2⟩ := acall_ok hm hT hp hpp n
    refine ⟨fun f xs st r st' tm G w vs h inv htm hl hr hf => ?_, fun f xs st r h => ?_⟩
    · simp only [acall] at h
      split at h
      · rename_i fx hfx
        cases fx with
        | a af => exact enter_sound i1 i2 hm (hT f _ hfx).1 h inv htm hl hr
        | d df => exact enterD_sound i1 i2 hm (hT f _ hfx).1 h inv htm hl hr
      · exact hp f xs st r st' tm G w vs h inv htm hl hr hf
    · simp only [acall] at h
      split at h
      · rename_i fx hfx
        exact (hT f fx hfx).2
      · exact hpp f xs st r h

section
variable {C : Nat → CallF} (hC : ∀ n, CallLe (C n) (C (n + 1)))

noncomputable def callLim (C : Nat → CallF) : CallF := fun f xs st => lim fun n => C n f xs st

include hC
theorem C_le : ∀ {n m : Nat}, n ≤ m → CallLe (C n) (C m) := by
  intro n m h
  induction m with
  | zero => have : n = 0 := by omega
            subst this; exact fun _ _ _ _ h => h
  | succ m ih =>
    by_cases he : n = m + 1
    · subst he; exact fun _ _ _ _ h => h
    · exact fun f xs st r hr => hC m f xs st r (ih (by omega) f xs st r hr)

theorem callLim_ge (n : Nat) : CallLe (C n) (callLim C) := fun f xs st r h => lim_eq (fun n x hx => hC n f xs st x hx) h

omit hC in
theorem callIn_cont {f : FuncId} {xs : List AV} {st : St} {r : Out} (hr : callIn (callLim C) f xs st = some r) : ∃ n, callIn (C n) f xs st = some r := by
  unfold callIn at hr
  split at hr
  · rename_i ha
    unfold pureCall at hr
    split at hr
    · rename_i h0
      obtain ⟨n, hn⟩ := lim_some h0
      exact ⟨n, by unfold callIn; rw [if_pos ha]; unfold pureCall; rw [hn]; exact hr⟩
    · cases hr
  · rename_i ha
    obtain ⟨n, hn⟩ := lim_some hr
    exact ⟨n, by unfold callIn; rw [if_neg ha]; exact hn⟩

omit hC in
theorem op_cont {o : AOp} {ly : Ly} {st : St} {r : Out} (hr : o.run (callLim C) ly st = some r) : ∃ n, o.run (C n) ly st = some r := by
  cases o with
  | call f xs =>
    simp only [AOp.run] at hr ⊢
    split at hr
    · rename_i ys hy; (try simp only [hy]); exact callIn_cont hr
    · cases hr
  | callr f xs =>
    simp only [AOp.run] at hr ⊢
    split at hr
    · rename_i ys hy; (try simp only [hy]); exact lim_some hr
    · cases hr
  | callv f xs =>
    simp only [AOp.run] at hr ⊢
    split at hr
    · rename_i g ys hf hy; (try simp only [hf, hy]); exact callIn_cont hr
    · rename_i g fs cs ys hf hy; (try simp only [hf, hy]); exact callIn_cont hr
    · cases hr
  | _ => exact ⟨0, hr⟩

theorem ops_cont : ∀ (os : List AO) (ly : Ly) (st : St) (r : CRes), runOps (callLim C) os ly st = some r → ∃ n, runOps (C n) os ly st = some r
  | [], _, _, _, hr => ⟨0, hr⟩
  | o :: os, ly, st, r, hr => by
    simp only [runOps] at hr ⊢
    split at hr
    · rename_i hw
      try simp only [hw]
      split at hr
      · rename_i x st' hx
        obtain ⟨n, h1⟩ := op_cont hx
        obtain ⟨m, h2⟩ := ops_cont os _ _ r hr
        refine ⟨max n m, ?_⟩
        rw [AOp.run_mono (C_le hC (Nat.le_max_left n m)) h1]
        exact runOps_mono (C_le hC (Nat.le_max_right n m)) _ _ _ _ h2
      · rename_i p st' hx
        obtain ⟨n, h1⟩ := op_cont hx
        exact ⟨n, by rw [h1]; exact hr⟩
      · cases hr
    · rename_i hw
      try simp only [hw]
      exact ops_cont os _ _ r hr
    · cases hr

theorem again_cont {ly : Ly} {st : St} : ∀ (os : List AO), again (callLim C) ly st os → ∃ n, again (C n) ly st os
  | [], _ => ⟨0, trivial⟩
  | o :: os, hr => by
    obtain ⟨h1, h2⟩ := hr
    obtain ⟨m, h3⟩ := again_cont os h2
    cases hw : wants ly o.gd with
    | none => rw [hw] at h1; exact h1.elim
    | some b =>
      cases b with
      | false => exact ⟨m, by simp only [again, hw]; exact ⟨trivial, h3⟩⟩
      | true =>
        rw [hw] at h1
        obtain ⟨x, g1, g2⟩ := h1
        obtain ⟨n, g3⟩ := op_cont g1
        refine ⟨max n m, ?_, again_mono (C_le hC (Nat.le_max_right n m)) _ h3⟩
        rw [hw]
        exact ⟨x, AOp.run_mono (C_le hC (Nat.le_max_left n m)) g3, g2⟩

theorem draw_cont : ∀ (os : List DO) (ly : Ly) (st : St) (r : CRes), runDraw (callLim C) os ly st = some r → ∃ n, runDraw (C n) os ly st = some r
  | [], _, _, _, hr => ⟨0, hr⟩
  | o :: os, ly, st, r, hr => by
    simp only [runDraw] at hr ⊢
    split at hr
    · rename_i hw
      try simp only [hw]
      split at hr
      · rename_i x st' hx
        obtain ⟨n, h1⟩ := op_cont hx
        split at hr
        · rename_i hc
          split at hr
          · rename_i ha
            obtain ⟨k, h3⟩ := again_cont hC _ ha
            obtain ⟨m, h2⟩ := draw_cont os _ _ r hr
            refine ⟨max n (max k m), ?_⟩
            rw [AOp.run_mono (C_le hC (Nat.le_max_left n _)) h1]
            simp only
            rw [if_pos hc, if_pos (again_mono (C_le hC (show k ≤ max n (max k m) by omega)) _ h3)]
            exact runDraw_mono (C_le hC (by omega)) _ _ _ _ h2
          · cases hr
        · rename_i hc
          split at hr
          · rename_i ha
            obtain ⟨m, h2⟩ := draw_cont os _ _ r hr
            refine ⟨max n m, ?_⟩
            rw [AOp.run_mono (C_le hC (Nat.le_max_left n _)) h1]
            simp only
            rw [if_neg hc, if_pos ha]
            exact runDraw_mono (C_le hC (by omega)) _ _ _ _ h2
          · cases hr
      · rename_i p st' hx
        obtain ⟨n, h1⟩ := op_cont hx
        exact ⟨n, by rw [h1]; exact hr⟩
      · cases hr
    · rename_i hw
      try simp only [hw]
      exact draw_cont os _ _ r hr
    · cases hr

theorem code_cont : ∀ (ac : ACode) (ly : Ly) (st : St) (r : CRes), ac.run (callLim C) ly st = some r → ∃ n, ac.run (C n) ly st = some r := by
  intro ac
  induction ac with
  | skip => exact fun _ _ _ hr => ⟨0, hr⟩
  | seq a b iha ihb =>
    intro ly st r hr
    simp only [ACode.run] at hr ⊢
    cases ha : a.run (callLim C) ly st with
    | none => simp [ha] at hr
    | some y =>
      rw [ha] at hr
      obtain ⟨n, h1⟩ := iha _ _ _ ha
      obtain ⟨y, ly1, st1⟩ := y
      cases y with
      | norm =>
        obtain ⟨m, h2⟩ := ihb _ _ _ hr
        refine ⟨max n m, ?_⟩
        rw [ACode.run_mono (C_le hC (Nat.le_max_left n m)) _ _ _ _ h1]
        exact ACode.run_mono (C_le hC (Nat.le_max_right n m)) _ _ _ _ h2
      | _ => exact ⟨n, by rw [h1]; exact hr⟩
  | reg os => intro ly st r hr; exact ops_cont hC os ly st r hr
  | regd os => intro ly st r hr; exact draw_cont hC os ly st r hr
  | cond o a b iha ihb =>
    intro ly st r hr
    simp only [ACode.run] at hr ⊢
    split at hr
    · rename_i hv; (try simp only [hv]); exact iha _ _ _ hr
    · rename_i hv; (try simp only [hv]); exact ihb _ _ _ hr
    · cases hr
  | block id b ih =>
    intro ly st r hr
    simp only [ACode.run] at hr ⊢
    cases hb : b.run (callLim C) ly st with
    | none => simp [hb] at hr
    | some y =>
      rw [hb] at hr
      obtain ⟨n, h1⟩ := ih _ _ _ hb
      exact ⟨n, by rw [h1]; exact hr⟩
  | loop b ih =>
    intro ly st r hr
    simp only [ACode.run] at hr ⊢
    obtain ⟨k, hk⟩ := lim_some hr
    have key : ∀ (k : Nat) (ly : Ly) (st : St) (r : CRes), loopRun (b.run (callLim C)) k ly st = some r → ∃ n, loopRun (b.run (C n)) k ly st = some r := by
      intro k
      induction k with
      | zero => intro ly st r h; cases h
      | succ k ihk =>
        intro ly st r h
        cases hb : b.run (callLim C) ((st.length, []) :: ly) st with
        | none => simp [loopRun, hb] at h
        | some y =>
          obtain ⟨n, h1⟩ := ih _ _ _ hb
          obtain ⟨y, ly', st'⟩ := y
          simp only [loopRun, hb] at h
          cases y with
          | norm =>
            match ly' with
            | [] => simp at h
            | [_] => simp at h
            | (m, e) :: l :: ls =>
              obtain ⟨m2, h2⟩ := ihk _ _ _ h
              refine ⟨max n m2, ?_⟩
              simp only [loopRun, ACode.run_mono (C_le hC (Nat.le_max_left n m2)) _ _ _ _ h1]
              exact loopRun_body (fun ly st r hr => ACode.run_mono (C_le hC (Nat.le_max_right n m2)) _ _ _ _ hr) _ _ _ _ h2
          | exit id =>
            match ly' with
            | [] => simp at h
            | [_] => simp at h
            | (m, e) :: l :: ls => exact ⟨n, by simp only [loopRun, h1]; exact h⟩
          | ret => exact ⟨n, by simp only [loopRun, h1]; exact h⟩
          | pan p => exact ⟨n, by simp only [loopRun, h1]; exact h⟩
    obtain ⟨n, h1⟩ := key k ly st r hk
    exact ⟨n, lim_eq (loopRun_mono _ · ly st) h1⟩
  | exit id => exact fun _ _ _ hr => ⟨0, hr⟩
  | ret => exact fun _ _ _ hr => ⟨0, hr⟩

theorem enter_cont {af : AFn} {xs : List AV} {st : St} {r : Out} (hr : af.enter (callLim C) xs st = some r) : ∃ n, af.enter (C n) xs st = some r := by
  unfold AFn.enter at hr
  split at hr
  · rename_i hn
    cases hb : af.body.run (callLim C) [(st.length, params 0 xs)] st with
    | none => simp [hb] at hr
    | some y =>
      rw [hb] at hr
      obtain ⟨n, h1⟩ := code_cont hC _ _ _ _ hb
      exact ⟨n, by unfold AFn.enter; rw [if_pos hn, h1]; exact hr⟩
  · cases hr
theorem dc_cont : ∀ (dc : DC) (ly : Ly) (st : St) (r : DRes), dc.run (callLim C) ly st = some r → ∃ n, dc.run (C n) ly st = some r
  | .seq a rr, ly, st, r, hr => by
    simp only [DC.run] at hr ⊢
    cases ha : a.run (callLim C) ly st with
    | none => simp [ha] at hr
    | some y =>
      rw [ha] at hr
      obtain ⟨n, h1⟩ := code_cont hC _ _ _ _ ha
      obtain ⟨y, ly1, st1⟩ := y
      cases y with
      | norm =>
        obtain ⟨m, h2⟩ := dc_cont rr _ _ _ hr
        refine ⟨max n m, ?_⟩
        rw [ACode.run_mono (C_le hC (Nat.le_max_left n m)) _ _ _ _ h1]
        exact DC.run_mono (C_le hC (Nat.le_max_right n m)) _ _ _ _ h2
      | _ => exact ⟨n, by rw [h1]; exact hr⟩
  | .dfr xs post, ly, st, r, hr => by
    simp only [DC.run] at hr ⊢
    split at hr
    · split at hr
      · rename_i ys hy
        (try simp only [hy])
        cases hp : post.run (callLim C) _ st with
        | none => rw [hp] at hr; cases hr
        | some z =>
          rw [hp] at hr
          obtain ⟨n, h1⟩ := code_cont hC _ _ _ _ hp
          exact ⟨n, by rw [h1]; exact hr⟩
      · cases hr
    · cases hr

theorem cfn_cont {ct : CFn} {p : PD} {ys : List AV} {st st' : St} (hr : ct.run (callLim C) p ys st = some st') : ∃ n, ct.run (C n) p ys st = some st' := by
  unfold CFn.run at hr ⊢
  split at hr
  · rename_i hn
    cases hb : ct.body.run (callLim C) (putO st [(st.length, params 0 ys)] (some ct.slot) (.pd p)) st with
    | none => simp [hb] at hr
    | some y =>
      rw [hb] at hr
      obtain ⟨n, h1⟩ := code_cont hC _ _ _ _ hb
      exact ⟨n, by rw [if_pos hn, h1]; exact hr⟩
  · cases hr

theorem enterD_cont {df : DFn} {xs : List AV} {st : St} {r : Out} (hr : df.enter (callLim C) xs st = some r) : ∃ n, df.enter (C n) xs st = some r := by
  unfold DFn.enter at hr
  split at hr
  · rename_i hn
    cases hb : df.code.run (callLim C) [(st.length, params 0 xs)] st with
    | none => simp [hb] at hr
    | some y =>
      rw [hb] at hr
      obtain ⟨n, h1⟩ := dc_cont hC _ _ _ _ hb
      obtain ⟨x, ly, st1, o⟩ := y
      cases o with
      | none => exact ⟨n, by unfold DFn.enter; rw [if_pos hn, h1]; cases x <;> exact hr⟩
      | some ys =>
        have late : ∀ (p : PD) (q : Option Out), (match df.ct.run (callLim C) p ys st1 with
            | some st2 => back df.md df.res st.length ly st2
            | none => none) = some r → ∃ m, (match df.ct.run (C m) p ys st1 with
            | some st2 => back df.md df.res st.length ly st2
            | none => none) = some r ∧ n ≤ m := by
          intro p _ hr
          cases hc : df.ct.run (callLim C) p ys st1 with
          | none => simp [hc] at hr
          | some st2 =>
            rw [hc] at hr
            obtain ⟨m, h2⟩ := cfn_cont hC hc
            exact ⟨max n m, by rw [CFn.run_mono (C_le hC (Nat.le_max_right n m)) h2]; exact hr, Nat.le_max_left n m⟩
        cases x with
        | norm =>
          obtain ⟨m, h3, h4⟩ := late .nilif none hr
          exact ⟨m, by unfold DFn.enter; rw [if_pos hn, DC.run_mono (C_le hC h4) _ _ _ _ h1]; exact h3⟩
        | ret =>
          obtain ⟨m, h3, h4⟩ := late .nilif none hr
          exact ⟨m, by unfold DFn.enter; rw [if_pos hn, DC.run_mono (C_le hC h4) _ _ _ _ h1]; exact h3⟩
        | pan p =>
          obtain ⟨m, h3, h4⟩ := late p none hr
          exact ⟨m, by unfold DFn.enter; rw [if_pos hn, DC.run_mono (C_le hC h4) _ _ _ _ h1]; exact h3⟩
        | exit id => cases hr
  · cases hr

theorem fx_cont {fx : FX} {xs : List AV} {st : St} {r : Out} (hr : fx.enter (callLim C) xs st = some r) : ∃ n, fx.enter (C n) xs st = some r := by
  cases fx with
  | a af => exact enter_cont hC hr
  | d df => exact enterD_cont hC hr
end

theorem acall_le (T : FuncId → Option FX) (prim : CallF) : ∀ n, CallLe (acall T prim n) (acall T prim (n + 1))
  | 0 => fun _ _ _ _ h => by cases h
  | n + 1 => fun f xs st r h => by
    simp only [acall] at h ⊢
    split at h
    · rename_i fx hfx; (try simp only [hfx]); exact FX.enter_mono (acall_le T prim n) h
    · rename_i hfx; (try simp only [hfx]); exact h

/-- A call, with as many calls as it takes. -/
noncomputable def call (T : FuncId → Option FX) (prim : CallF) : CallF := callLim (acall T prim)

theorem call_fn {T : FuncId → Option FX} {prim : CallF} {f : FuncId} {fx : FX} (hf : T f = some fx) (xs : List AV) (st : St) : call T prim f xs st = fx.enter (call T prim) xs st := by
  apply Option.ext
  intro r
  constructor
  · intro h
    obtain ⟨n, hn⟩ := lim_some h
    cases n with
    | zero => cases hn
    | succ n =>
      simp only [acall, hf] at hn
      exact FX.enter_mono (callLim_ge (acall_le T prim) n) hn
  · intro h
    obtain ⟨n, hn⟩ := fx_cont (acall_le T prim) h
    exact callLim_ge (acall_le T prim) (n + 1) f xs st r (by simp only [acall, hf]; exact hn)

theorem call_prim {T : FuncId → Option FX} {prim : CallF} {f : FuncId} (hf : T f = none) (xs : List AV) (st : St) : call T prim f xs st = prim f xs st := by
  apply Option.ext
  intro r
  constructor
  · intro h
    obtain ⟨n, hn⟩ := lim_some h
    cases n with
    | zero => cases hn
    | succ n => simp only [acall, hf] at hn; exact hn
  · intro h
    exact callLim_ge (acall_le T prim) 1 f xs st r (by simp only [acall, hf]; exact h)

theorem call_ok {P : Program} {T : FuncId → Option FX} {prim : CallF} (hm : P.follows .mixedOrders = true) (hT : ∀ f fx, T f = some fx → XFits P f fx ∧ plainF P f = true) (hp : CallOK P prim) (hpp : CallPlain P prim) : CallOK P (call T prim) ∧ CallPlain P (call T prim) := by
  refine ⟨fun f xs st r st' tm G w vs h inv htm hl hr hf => ?_, fun f xs st r h => ?_⟩
  · obtain ⟨n, hn⟩ := lim_some h
    exact (acall_ok hm hT hp hpp n).1 f xs st r st' tm G w vs hn inv htm hl hr hf
  · obtain ⟨n, hn⟩ := lim_some h
    exact (acall_ok hm hT hp hpp n).2 f xs st r hn
end Go.Proofs.Kh
