/- The machine, so that it can be run: what it comes to is what the machine comes to. -/
import Derived.Test.YtgnmblegndbflaaGreatDoorKhZL
namespace Go.Proofs.Kh
set_option linter.all false
set_option linter.unusedVariables false
set_option linter.unusedSimpArgs false
open Go

mutual
def PD.beq : PD → PD → Bool
  | .int k n, .int k' n' => decide (k = k') && decide (n = n')
  | .bool a, .bool b => a == b
  | .str a, .str b => decide (a = b)
  | .sl xs, .sl ys => PD.beqL xs ys
  | .agg xs, .agg ys => PD.beqL xs ys
  | .ref xs o, .ref ys p => PD.beqL xs ys && decide (o = p)
  | .nilp, .nilp => true
  | .fn f, .fn g => decide (f = g)
  | .nilfn, .nilfn => true
  | .ifc t x, .ifc u y => decide (t = u) && PD.beq x y
  | .nilif, .nilif => true
  | _, _ => false
def PD.beqL : List PD → List PD → Bool
  | [], [] => true
  | x :: xs, y :: ys => PD.beq x y && PD.beqL xs ys
  | _, _ => false
end

mutual
theorem PD.beq_eq : ∀ (x y : PD), PD.beq x y = true → x = y
  | .int k n, y, h => by cases y <;> simp_all [PD.beq]
  | .bool a, y, h => by cases y <;> simp_all [PD.beq]
  | .str a, y, h => by cases y <;> simp_all [PD.beq]
  | .sl xs, y, h => by
    cases y <;> simp only [PD.beq] at h <;> first | cases h | skip
    rw [PD.beqL_eq _ _ h]
  | .agg xs, y, h => by
    cases y <;> simp only [PD.beq] at h <;> first | cases h | skip
    rw [PD.beqL_eq _ _ h]
  | .ref xs o, y, h => by
    cases y <;> simp only [PD.beq, Bool.and_eq_true, decide_eq_true_eq] at h <;> first | cases h | skip
    rename_i h1 h2
    rw [PD.beqL_eq _ _ h1, h2]
  | .nilp, y, h => by cases y <;> simp_all [PD.beq]
  | .fn f, y, h => by cases y <;> simp_all [PD.beq]
  | .nilfn, y, h => by cases y <;> simp_all [PD.beq]
  | .ifc t x, y, h => by
    cases y <;> simp only [PD.beq, Bool.and_eq_true, decide_eq_true_eq] at h <;> first | cases h | skip
    rename_i h1 h2
    rw [PD.beq_eq _ _ h2, h1]
  | .nilif, y, h => by cases y <;> simp_all [PD.beq]
theorem PD.beqL_eq : ∀ (x y : List PD), PD.beqL x y = true → x = y
  | [], y, h => by cases y <;> simp_all [PD.beqL]
  | x :: xs, y, h => by
    cases y with
    | nil => simp [PD.beqL] at h
    | cons y ys =>
      simp only [PD.beqL, Bool.and_eq_true] at h
      rw [PD.beq_eq _ _ h.1, PD.beqL_eq _ _ h.2]
end

mutual
def AV.beq : AV → AV → Bool
  | .pd x, .pd y => PD.beq x y
  | .nil, .nil => true
  | .tight xs, .tight ys => PD.beqL xs ys
  | .row a b, .row c d => decide (a = c) && decide (b = d)
  | .rp a b c d, .rp a' b' c' d' => decide (a = a') && decide (b = b') && decide (c = c') && decide (d = d')
  | .ptr a b, .ptr c d => decide (a = c) && decide (b = d)
  | .clo f a b, .clo g c d => decide (f = g) && AV.beqL a c && AV.beqL b d
  | .agg a, .agg b => AV.beqL a b
  | .tup a, .tup b => AV.beqL a b
  | .bot, .bot => true
  | _, _ => false
def AV.beqL : List AV → List AV → Bool
  | [], [] => true
  | x :: xs, y :: ys => AV.beq x y && AV.beqL xs ys
  | _, _ => false
end

mutual
theorem AV.beq_eq : ∀ (x y : AV), AV.beq x y = true → x = y
  | .pd x, y, h => by
    cases y <;> simp only [AV.beq] at h <;> first | cases h | skip
    rw [PD.beq_eq _ _ h]
  | .nil, y, h => by cases y <;> simp_all [AV.beq]
  | .tight xs, y, h => by
    cases y <;> simp only [AV.beq] at h <;> first | cases h | skip
    rw [PD.beqL_eq _ _ h]
  | .row a b, y, h => by cases y <;> simp_all [AV.beq]
  | .rp a b c d, y, h => by cases y <;> simp_all [AV.beq]
  | .ptr a b, y, h => by cases y <;> simp_all [AV.beq]
  | .clo f a b, y, h => by
    cases y <;> simp only [AV.beq, Bool.and_eq_true, decide_eq_true_eq] at h <;> first | cases h | skip
    rename_i h1 h2
    rw [AV.beqL_eq _ _ h1.2, AV.beqL_eq _ _ h2, h1.1]
  | .agg a, y, h => by
    cases y <;> simp only [AV.beq] at h <;> first | cases h | skip
    rw [AV.beqL_eq _ _ h]
  | .tup a, y, h => by
    cases y <;> simp only [AV.beq] at h <;> first | cases h | skip
    rw [AV.beqL_eq _ _ h]
  | .bot, y, h => by cases y <;> simp_all [AV.beq]
theorem AV.beqL_eq : ∀ (x y : List AV), AV.beqL x y = true → x = y
  | [], y, h => by cases y <;> simp_all [AV.beqL]
  | x :: xs, y, h => by
    cases y with
    | nil => simp [AV.beqL] at h
    | cons y ys =>
      simp only [AV.beqL, Bool.and_eq_true] at h
      rw [AV.beq_eq _ _ h.1, AV.beqL_eq _ _ h.2]
end

def Obj.beq : Obj → Obj → Bool
  | .var a, .var b => AV.beqL a b
  | .row a b c, .row d e f => a == d && decide (b = e) && PD.beqL c f
  | .iter a b, .iter c d => decide (a = c) && decide (b = d)
  | .dead, .dead => true
  | _, _ => false

theorem Obj.beq_eq : ∀ (x y : Obj), Obj.beq x y = true → x = y
  | .var a, y, h => by
    cases y <;> simp only [Obj.beq] at h <;> first | cases h | skip
    rw [AV.beqL_eq _ _ h]
  | .row a b c, y, h => by
    cases y <;> simp only [Obj.beq, Bool.and_eq_true, decide_eq_true_eq, beq_iff_eq] at h <;> first | cases h | skip
    rename_i h1 h2
    rw [PD.beqL_eq _ _ h2, h1.1, h1.2]
  | .iter a b, y, h => by cases y <;> simp_all [Obj.beq]
  | .dead, y, h => by cases y <;> simp_all [Obj.beq]

def stBeq : St → St → Bool
  | [], [] => true
  | x :: xs, y :: ys => Obj.beq x y && stBeq xs ys
  | _, _ => false

theorem stBeq_eq : ∀ (x y : St), stBeq x y = true → x = y
  | [], y, h => by cases y <;> simp_all [stBeq]
  | x :: xs, y, h => by
    cases y with
    | nil => simp [stBeq] at h
    | cons y ys =>
      simp only [stBeq, Bool.and_eq_true] at h
      rw [Obj.beq_eq _ _ h.1, stBeq_eq _ _ h.2]

/-- Operations that change nothing, whatever they come to. -/
def AOp.quiet : AOp → Bool
  | .mov _ | .pick _ _ _ | .nilck _ | .bin _ _ _ | .eq _ _ _ _ | .neg _ | .not _ | .mkfn _ _ _ | .sls _ _ _ | .fld _ _ _ _ | .aaddr _ _ _ _ | .idxs _ _ | .idxa _ _ _ _ _ | .tass _ _ _ _ | .ext _ _ | .lens _ | .minmax _ _ | .build _ _ | .xib _ _
  | .load _ _ _ | .faddr _ _ | .iaddr _ _ _ | .len _ => true
  | _ => false

theorem quiet_run {call : CallF} {ly : Ly} {st : St} {o : AOp} {x : ARes} {st' : St} (hs : o.quiet = true) (h : o.run call ly st = some (x, st')) : st' = st := by
  cases o <;> simp only [AOp.quiet] at hs <;> first | cases hs | skip
  all_goals
    simp only [AOp.run, val] at h
    repeat' split at h
    all_goals first
      | (cases h; done)
      | (simp only [Option.some.injEq, Prod.mk.injEq] at h; exact h.2.symm)

/-- Calls that are handed no places change nothing either. -/
def AOp.pureOp (ly : Ly) : AOp → Bool
  | .call _ xs => match evL ly xs with
    | some ys => ys.all AV.isPd
    | none => false
  | .callv f xs => match f.ev ly, evL ly xs with
    | some (.pd _), some ys => ys.all AV.isPd
    | _, _ => false
  | _ => false

def AOp.quietIn (ly : Ly) (o : AOp) : Bool := o.quiet || o.pureOp ly

theorem frzA_pd (st : St) : ∀ (xs : List AV), xs.all AV.isPd = true → frzA st xs = st
  | [], _ => rfl
  | x :: r, h => by
    simp only [List.all_cons, Bool.and_eq_true] at h
    cases x with
    | pd p => simp only [frzA, frz, frz1]; exact frzA_pd st r h.2
    | _ => cases h.1

theorem firm_pd {st : St} {xs : List AV} (h : xs.all AV.isPd = true) : (xs.map (firm st)).all AV.isPd = true := by
  rw [List.all_map, List.all_eq_true]
  intro x hx
  have := List.all_eq_true.1 h x hx
  cases x with
  | pd p => rfl
  | _ => cases this

theorem pureCall_st {call : CallF} {f : FuncId} {ys : List AV} {st : St} {x : ARes} {st' : St} (h : pureCall call f ys st = some (x, st')) : st' = st := by
  unfold pureCall at h
  split at h
  · split at h
    · simp only [Option.some.injEq, Prod.mk.injEq] at h; exact h.2.symm
    · cases h
  · cases h

theorem quietIn_run {call : CallF} {ly : Ly} {st : St} {o : AOp} {x : ARes} {st' : St} (hs : o.quietIn ly = true) (h : o.run call ly st = some (x, st')) : st' = st := by
  unfold AOp.quietIn at hs
  rw [Bool.or_eq_true] at hs
  rcases hs with hs | hs
  · exact quiet_run hs h
  cases o with
  | call f xs =>
    simp only [AOp.pureOp] at hs
    split at hs
    · rename_i ys hy
      simp only [AOp.run, hy] at h
      unfold callIn at h
      rw [if_pos (firm_pd hs)] at h
      rw [pureCall_st h, frzA_pd _ _ hs]
    · cases hs
  | callv f xs =>
    simp only [AOp.pureOp] at hs
    split at hs
    · rename_i p ys hp hy
      simp only [AOp.run, hp, hy] at h
      cases p with
      | fn g =>
        simp only at h
        unfold callIn at h
        rw [if_pos (firm_pd hs)] at h
        rw [pureCall_st h, frzA_pd _ _ hs]
      | _ => cases h
    · cases hs
  | _ => cases hs

def againB (call : CallF) (ly : Ly) (st : St) : List AO → Bool
  | [] => true
  | o :: r => (match wants ly o.gd with
    | some true => (match o.op.run call ly st with
      | some (.ret x, st') => (o.op.quietIn ly || stBeq st' st) && (match o.dst with
        | none => true
        | some d => match Ly.get ly d with
          | some y => AV.beq y x
          | none => false)
      | _ => false)
    | some false => true
    | none => false) && againB call ly st r

theorem againB_ok {call : CallF} {ly : Ly} {st : St} : ∀ (l : List AO), againB call ly st l = true → again call ly st l
  | [], _ => trivial
  | o :: r, h => by
    simp only [againB, Bool.and_eq_true] at h
    refine ⟨?_, againB_ok r h.2⟩
    have h1 := h.1
    split at h1
    · rename_i hw
      rw [hw]
      simp only
      split at h1
      · rename_i x st' hr
        simp only [Bool.and_eq_true, Bool.or_eq_true] at h1
        have hs : st' = st := h1.1.elim (fun q => quietIn_run q hr) (fun q => stBeq_eq _ _ q)
        subst hs
        refine ⟨x, hr, fun d hd => ?_⟩
        have h2 := h1.2
        rw [hd] at h2
        simp only at h2
        split at h2
        · rename_i y hy
          rw [hy, AV.beq_eq _ _ h2]
        · cases h2
      · cases h1
    · rename_i hw
      rw [hw]; trivial
    · cases h1

def drawB (call : CallF) : List DO → Ly → St → Option CRes
  | [], ly, st => some (.norm, ly, st)
  | d :: r, ly, st => match wants ly d.o.gd with
    | some true => match d.o.op.run call ly st with
      | some (.ret x, st') =>
        if d.chg then (if againB call (putO [] ly d.o.dst x) st' d.chk then drawB call r (putO [] ly d.o.dst x) st' else none)
        else if (d.o.op.quietIn ly || stBeq st' st) then drawB call r (putO [] ly d.o.dst x) st else none
      | some (.pan p, st') => if d.chg then some (.pan p, [(Ly.top ly, [])], st') else none
      | none => none
    | some false => drawB call r (putO [] ly d.o.dst (.tup [])) st
    | none => none

theorem drawB_ok {call : CallF} : ∀ (l : List DO) (ly : Ly) (st : St) (r : CRes), drawB call l ly st = some r → runDraw call l ly st = some r
  | [], _, _, _, h => h
  | d :: l, ly, st, r, h => by
    simp only [drawB] at h
    simp only [runDraw]
    split at h
    · rename_i hw
      try simp only [hw]
      split at h
      · rename_i x st' hx
        simp only [hx]
        split at h
        · rename_i hc
          split at h
          · rename_i ha
            rw [if_pos hc, if_pos (againB_ok _ ha)]
            exact drawB_ok l _ _ r h
          · cases h
        · rename_i hc
          split at h
          · rename_i ha
            have hs : st' = st := by
              simp only [Bool.or_eq_true] at ha
              exact ha.elim (fun q => quietIn_run q hx) (fun q => stBeq_eq _ _ q)
            subst hs
            rw [if_neg hc, if_pos rfl]
            exact drawB_ok l _ _ r h
          · cases h
      · rename_i p st' hx
        simp only [hx]
        exact h
      · cases h
    · rename_i hw
      try simp only [hw]
      exact drawB_ok l _ _ r h
    · cases h

abbrev LoopF := (Ly → St → Option CRes) → Ly → St → Option CRes

def LoopOK (lp : LoopF) : Prop := ∀ b ly st r, lp b ly st = some r → loopLim b ly st = some r

def ACode.ex (lp : LoopF) (call : CallF) : ACode → Ly → St → Option CRes
  | .skip, ly, st => some (.norm, ly, st)
  | .seq a b, ly, st => match a.ex lp call ly st with
    | some (.norm, ly1, st1) => b.ex lp call ly1 st1
    | r => r
  | .reg os, ly, st => runOps call os ly st
  | .regd os, ly, st => drawB call os ly st
  | .cond c a b, ly, st => match c.ev ly with
    | some (.pd (.bool true)) => a.ex lp call ly st
    | some (.pd (.bool false)) => b.ex lp call ly st
    | _ => none
  | .block id b, ly, st => match b.ex lp call ly st with
    | some (.exit j, ly1, st1) => if j = id then some (.norm, ly1, st1) else some (.exit j, ly1, st1)
    | r => r
  | .loop b, ly, st => lp (b.ex lp call) ly st
  | .exit id, ly, st => some (.exit id, ly, st)
  | .ret, ly, st => some (.ret, ly, st)

theorem loopRun_ok {b b' : Ly → St → Option CRes} (h : ∀ ly st r, b ly st = some r → b' ly st = some r) {ly : Ly} {st : St} {r : CRes} (hr : loopLim b ly st = some r) : loopLim b' ly st = some r := loopLim_body h hr

theorem ACode.ex_ok {lp : LoopF} (hlp : LoopOK lp) {call : CallF} : ∀ (ac : ACode) (ly : Ly) (st : St) (r : CRes), ac.ex lp call ly st = some r → ac.run call ly st = some r := by
  intro ac
  induction ac with
  | skip => exact fun _ _ _ h => h
  | seq a b iha ihb =>
    intro ly st r h
    simp only [ACode.ex] at h
    simp only [ACode.run]
    cases ha : a.ex lp call ly st with
    | none => simp [ha] at h
    | some y =>
      rw [ha] at h
      rw [iha _ _ _ ha]
      obtain ⟨y, ly1, st1⟩ := y
      cases y with
      | norm => exact ihb _ _ _ h
      | _ => exact h
  | reg os => exact fun _ _ _ h => h
  | regd os => exact fun ly st r h => drawB_ok os ly st r h
  | cond c a b iha ihb =>
    intro ly st r h
    simp only [ACode.ex] at h
    simp only [ACode.run]
    split at h
    · rename_i hv; (try simp only [hv]); exact iha _ _ _ h
    · rename_i hv; (try simp only [hv]); exact ihb _ _ _ h
    · cases h
  | block id b ih =>
    intro ly st r h
    simp only [ACode.ex] at h
    simp only [ACode.run]
    cases hb : b.ex lp call ly st with
    | none => simp [hb] at h
    | some y =>
      rw [hb] at h
      rw [ih _ _ _ hb]
      exact h
  | loop b ih =>
    intro ly st r h
    simp only [ACode.ex] at h
    simp only [ACode.run]
    exact loopLim_body ih (hlp _ _ _ _ h)
  | exit id => exact fun _ _ _ h => h
  | ret => exact fun _ _ _ h => h

def AFn.ex (lp : LoopF) (call : CallF) (af : AFn) (xs : List AV) (st : St) : Option Out :=
  if xs.length = af.np then
    match af.body.ex lp call [(st.length, params 0 xs)] st with
    | some (.norm, ly, st') => match evRes ly st' af.res with
      | some ys => leave af.md st.length st' ys
      | none => none
    | some (.ret, ly, st') => match evRes ly st' af.res with
      | some ys => leave af.md st.length st' ys
      | none => none
    | some (.pan p, _, st') => some (.pan p, st'.take st.length)
    | _ => none
  else none

theorem AFn.ex_ok {lp : LoopF} (hlp : LoopOK lp) {call : CallF} {af : AFn} {xs : List AV} {st : St} {r : Out} (h : af.ex lp call xs st = some r) : af.enter call xs st = some r := by
  unfold AFn.ex at h
  unfold AFn.enter
  split at h
  · rename_i hn
    rw [if_pos hn]
    cases hb : af.body.ex lp call [(st.length, params 0 xs)] st with
    | none => simp [hb] at h
    | some y =>
      rw [hb] at h
      rw [ACode.ex_ok hlp _ _ _ _ hb]
      exact h
  · cases h

def DC.ex (lp : LoopF) (call : CallF) : DC → Ly → St → Option DRes
  | .seq a r, ly, st => match a.ex lp call ly st with
    | some (.norm, ly1, st1) => r.ex lp call ly1 st1
    | some (x, ly1, st1) => some (x, ly1, st1, none)
    | none => none
  | .dfr xs post, ly, st => match ly with
    | [(m, e)] => match evL [(m, e)] xs with
      | some ys => match post.ex lp call [(st.length, e)] st with
        | some (x, ly2, st2) => some (x, ly2, st2, some ys)
        | none => none
      | none => none
    | _ => none

def CFn.ex (lp : LoopF) (call : CallF) (c : CFn) (r : PD) (ys : List AV) (st : St) : Option St :=
  if ys.length = c.np then match c.body.ex lp call (putO st [(st.length, params 0 ys)] (some c.slot) (.pd r)) st with
    | some (.norm, _, st') => some (st'.take st.length)
    | some (.ret, _, st') => some (st'.take st.length)
    | _ => none
  else none

def DFn.ex (lp : LoopF) (call : CallF) (df : DFn) (xs : List AV) (st : St) : Option Out :=
  if xs.length = df.np then
    match df.code.ex lp call [(st.length, params 0 xs)] st with
    | some (.norm, ly, st', none) => back df.md df.res st.length ly st'
    | some (.ret, ly, st', none) => back df.md df.res st.length ly st'
    | some (.pan p, _, st', none) => some (.pan p, st'.take st.length)
    | some (.norm, ly, st', some ys) => match df.ct.ex lp call .nilif ys st' with
      | some st2 => back df.md df.res st.length ly st2
      | none => none
    | some (.ret, ly, st', some ys) => match df.ct.ex lp call .nilif ys st' with
      | some st2 => back df.md df.res st.length ly st2
      | none => none
    | some (.pan p, ly, st', some ys) => match df.ct.ex lp call p ys st' with
      | some st2 => back df.md df.res st.length ly st2
      | none => none
    | _ => none
  else none

theorem DC.ex_ok {lp : LoopF} (hlp : LoopOK lp) {call : CallF} : ∀ (dc : DC) (ly : Ly) (st : St) (r : DRes), dc.ex lp call ly st = some r → dc.run call ly st = some r
  | .seq a r, ly, st, x, hr => by
    simp only [DC.ex] at hr
    simp only [DC.run]
    cases ha : a.ex lp call ly st with
    | none => simp [ha] at hr
    | some y =>
      rw [ha] at hr
      rw [ACode.ex_ok hlp _ _ _ _ ha]
      obtain ⟨y, ly1, st1⟩ := y
      cases y with
      | norm => exact DC.ex_ok hlp r _ _ _ hr
      | _ => exact hr
  | .dfr xs post, ly, st, x, hr => by
    simp only [DC.ex] at hr
    simp only [DC.run]
    split at hr
    · split at hr
      · rename_i ys hy
        (try simp only [hy])
        cases hp : post.ex lp call _ st with
        | none => rw [hp] at hr; cases hr
        | some z => rw [hp] at hr; rw [ACode.ex_ok hlp _ _ _ _ hp]; exact hr
      · cases hr
    · cases hr

theorem CFn.ex_ok {lp : LoopF} (hlp : LoopOK lp) {call : CallF} {ct : CFn} {r : PD} {ys : List AV} {st st' : St} (hr : ct.ex lp call r ys st = some st') : ct.run call r ys st = some st' := by
  unfold CFn.ex at hr
  unfold CFn.run
  split at hr
  · rename_i hn
    rw [if_pos hn]
    cases hb : ct.body.ex lp call (putO st [(st.length, params 0 ys)] (some ct.slot) (.pd r)) st with
    | none => simp [hb] at hr
    | some y => rw [hb] at hr; rw [ACode.ex_ok hlp _ _ _ _ hb]; exact hr
  · cases hr

theorem DFn.ex_ok {lp : LoopF} (hlp : LoopOK lp) {call : CallF} {df : DFn} {xs : List AV} {st : St} {r : Out} (hr : df.ex lp call xs st = some r) : df.enter call xs st = some r := by
  unfold DFn.ex at hr
  unfold DFn.enter
  split at hr
  · rename_i hn
    rw [if_pos hn]
    cases hb : df.code.ex lp call [(st.length, params 0 xs)] st with
    | none => simp [hb] at hr
    | some y =>
      rw [hb] at hr
      rw [DC.ex_ok hlp _ _ _ _ hb]
      obtain ⟨x, ly, st1, o⟩ := y
      cases o with
      | none => cases x <;> exact hr
      | some ys =>
        cases x with
        | norm =>
          simp only at hr ⊢
          cases hc : df.ct.ex lp call .nilif ys st1 with
          | none => simp [hc] at hr
          | some st2 => rw [hc] at hr; rw [CFn.ex_ok hlp hc]; exact hr
        | ret =>
          simp only at hr ⊢
          cases hc : df.ct.ex lp call .nilif ys st1 with
          | none => simp [hc] at hr
          | some st2 => rw [hc] at hr; rw [CFn.ex_ok hlp hc]; exact hr
        | pan p =>
          simp only at hr ⊢
          cases hc : df.ct.ex lp call p ys st1 with
          | none => simp [hc] at hr
          | some st2 => rw [hc] at hr; rw [CFn.ex_ok hlp hc]; exact hr
        | exit id => exact hr
  · cases hr

def FX.ex (lp : LoopF) (call : CallF) : FX → List AV → St → Option Out
  | .a af => af.ex lp call
  | .d df => df.ex lp call

theorem FX.ex_ok {lp : LoopF} (hlp : LoopOK lp) {call : CallF} {fx : FX} {xs : List AV} {st : St} {r : Out} (hr : fx.ex lp call xs st = some r) : fx.enter call xs st = some r := by
  cases fx with
  | a af => exact AFn.ex_ok hlp hr
  | d df => exact DFn.ex_ok hlp hr

theorem lp_lim : LoopOK loopLim := fun _ _ _ _ h => h
theorem lp_run (n : Nat) : LoopOK fun b => loopRun b n := fun b ly st _ h => lim_eq (loopRun_mono b · ly st) h

/-- A call that is carried out, as deep as n, loops as long as L. -/
def callB (T : FuncId → Option FX) (prim : CallF) (L : Nat) : Nat → CallF
  | 0 => fun _ _ _ => none
  | n + 1 => fun f xs st => match T f with
    | some fx => fx.ex (fun b => loopRun b L) (callB T prim L n) xs st
    | none => prim f xs st

theorem callB_le (T : FuncId → Option FX) (prim : CallF) (L : Nat) : ∀ n, CallLe (callB T prim L n) (acall T prim n)
  | 0 => fun _ _ _ _ h => by cases h
  | n + 1 => fun f xs st r h => by
    simp only [callB] at h
    simp only [acall]
    split at h
    · rename_i fx hfx
      simp only [hfx]
      exact FX.enter_mono (callB_le T prim L n) (FX.ex_ok (lp_run L) h)
    · rename_i hfx
      simp only [hfx]
      exact h

theorem call_of_callB {T : FuncId → Option FX} {prim : CallF} {L n : Nat} {f : FuncId} {xs : List AV} {st : St} {r : Out} (h : callB T prim L n f xs st = some r) : call T prim f xs st = some r :=
  callLim_ge (acall_le T prim) n f xs st r (callB_le T prim L n f xs st r h)

/-- A function's call is what its body comes to. -/
theorem call_of_ex {T : FuncId → Option FX} {prim : CallF} {f : FuncId} {fx : FX} (hf : T f = some fx) {xs : List AV} {st : St} {r : Out} (h : fx.ex loopLim (call T prim) xs st = some r) : call T prim f xs st = some r := by
  rw [call_fn hf]
  exact FX.ex_ok lp_lim h
end Go.Proofs.Kh
