/- The level of code: regions, what is asked, blocks, loops; and where it lands. -/
import Derived.Test.YtgnmblegndbflaaGreatDoorKhW
namespace Go.Proofs.Kh
set_option linter.all false
set_option linter.unusedVariables false
set_option linter.unusedSimpArgs false
open Go

/-- One operation: where its value goes, what is done, whether it is wanted. -/
structure AO where
  dst : Option Nat
  op : AOp
  gd : Option (Nat × Bool)

/-- One operation of a region whose order is drawn: its number; does it change anything; what is looked at again behind it. -/
structure DO where
  i : Nat
  chg : Bool
  o : AO
  chk : List AO

inductive ACode where
  | skip
  | seq (a b : ACode)
  | reg (os : List AO)
  | regd (os : List DO)
  | cond (c : Opd) (a b : ACode)
  | block (id : Nat) (b : ACode)
  | loop (b : ACode)
  | exit (id : Nat)
  | ret

inductive AX where
  | norm
  | exit (id : Nat)
  | ret
  | pan (p : PD)

abbrev CRes := AX × Ly × St

def wants (ly : Ly) : Option (Nat × Bool) → Option Bool
  | none => some true
  | some (s, b) => match Ly.get ly s with
    | some (.pd (.bool c)) => some (c == b)
    | some (.tup []) => some false
    | _ => none

def lyPut (st : St) : Ly → Nat → AV → Ly
  | [], _, _ => []
  | (m, e) :: r, d, v => match Env.get e d with
    | some _ => (m, Env.set e d v) :: r
    | none => match Ly.get r d with
      | some _ => (m, e) :: lyPut st r d ((older st m v).clip m)
      | none => (m, (d, v) :: e) :: r

def putO (st : St) (ly : Ly) (d : Option Nat) (v : AV) : Ly := match d with
  | none => ly
  | some d => lyPut st ly d v

def runOps (call : CallF) : List AO → Ly → St → Option CRes
  | [], ly, st => some (.norm, ly, st)
  | o :: r, ly, st => match wants ly o.gd with
    | some true => match o.op.run call ly st with
      | some (.ret x, st') => runOps call r (putO st' ly o.dst x) st'
      | some (.pan p, st') => some (.pan p, ly, st')
      | none => none
    | some false => runOps call r (putO st ly o.dst (.tup [])) st
    | none => none

/-- Looked at again: does it come to the same? -/
def again (call : CallF) (ly : Ly) (st : St) : List AO → Prop
  | [] => True
  | o :: r => (match wants ly o.gd with
    | some true => ∃ x, o.op.run call ly st = some (.ret x, st) ∧ ∀ d, o.dst = some d → Ly.get ly d = some x
    | some false => True
    | none => False) ∧ again call ly st r

open Classical in
noncomputable def runDraw (call : CallF) : List DO → Ly → St → Option CRes
  | [], ly, st => some (.norm, ly, st)
  | d :: r, ly, st => match wants ly d.o.gd with
    | some true => match d.o.op.run call ly st with
      | some (.ret x, st') =>
        if d.chg then (if again call (putO [] ly d.o.dst x) st' d.chk then runDraw call r (putO [] ly d.o.dst x) st' else none)
        else if st' = st then runDraw call r (putO [] ly d.o.dst x) st else none
      | some (.pan p, st') => if d.chg then some (.pan p, [(Ly.top ly, [])], st') else none
      | none => none
    | some false => runDraw call r (putO [] ly d.o.dst (.tup [])) st
    | none => none

def loopRun (body : Ly → St → Option CRes) : Nat → Ly → St → Option CRes
  | 0, _, _ => none
  | n + 1, ly, st => match body ((st.length, []) :: ly) st with
    | some (.norm, (m, _) :: l :: ls, st') => loopRun body n (l :: ls) (st'.take m)
    | some (.exit id, (m, _) :: l :: ls, st') => some (.exit id, l :: ls, st'.take m)
    | some (.ret, ly', st') => some (.ret, ly', st')
    | some (.pan p, ly', st') => some (.pan p, ly', st')
    | _ => none

/-- What is come to with as many steps as it takes. -/
noncomputable def lim {α : Type} (g : Nat → Option α) : Option α := open Classical in
  if h : ∃ n, (g n).isSome then g h.choose else none

theorem lim_eq {α : Type} {g : Nat → Option α} (mono : ∀ n x, g n = some x → g (n + 1) = some x) {n : Nat} {x : α} (h : g n = some x) : lim g = some x := by
  have up : ∀ k n x, g n = some x → g (n + k) = some x := by
    intro k
    induction k with
    | zero => intro n x h; exact h
    | succ k ih => intro n x h; exact mono _ _ (ih n x h)
  have hex : ∃ n, (g n).isSome := ⟨n, by rw [h]; rfl⟩
  unfold lim
  rw [dif_pos hex]
  obtain ⟨y, hy⟩ := Option.isSome_iff_exists.1 hex.choose_spec
  rw [hy]
  rcases Nat.le_total n hex.choose with hle | hle
  · have := up (hex.choose - n) n x h
    rw [Nat.add_sub_cancel' hle, hy] at this
    exact this
  · have := up (n - hex.choose) _ y hy
    rw [Nat.add_sub_cancel' hle, h] at this
    exact this.symm

theorem lim_some {α : Type} {g : Nat → Option α} {x : α} (h : lim g = some x) : ∃ n, g n = some x := by
  unfold lim at h
  split at h
  · exact ⟨_, h⟩
  · cases h

theorem lim_none {α : Type} {g : Nat → Option α} (h : ∀ n, g n = none) : lim g = none := by
  unfold lim
  rw [dif_neg]
  rintro ⟨n, hn⟩
  rw [h n] at hn
  cases hn

noncomputable def loopLim (body : Ly → St → Option CRes) (ly : Ly) (st : St) : Option CRes := lim fun n => loopRun body n ly st

theorem loopRun_mono (body : Ly → St → Option CRes) : ∀ (n : Nat) (ly : Ly) (st : St) (x : CRes), loopRun body n ly st = some x → loopRun body (n + 1) ly st = some x
  | 0, _, _, _, h => by cases h
  | n + 1, ly, st, x, h => by
    cases hb : body ((st.length, []) :: ly) st with
    | none => simp [loopRun, hb] at h
    | some r =>
      obtain ⟨y, ly', st'⟩ := r
      simp only [loopRun, hb] at h ⊢
      cases y with
      | norm =>
        match ly' with
        | [] => simp at h
        | [_] => simp at h
        | (m, e) :: l :: ls => exact loopRun_mono body n _ _ _ h
      | exit id =>
        match ly' with
        | [] => simp at h
        | [_] => simp at h
        | (m, e) :: l :: ls => exact h
      | ret => exact h
      | pan p => exact h

/-- A loop is a round of it, and what is left. -/
theorem loopLim_eq (body : Ly → St → Option CRes) (ly : Ly) (st : St) : loopLim body ly st = match body ((st.length, []) :: ly) st with
    | some (.norm, (m, _) :: l :: ls, st') => loopLim body (l :: ls) (st'.take m)
    | some (.exit id, (m, _) :: l :: ls, st') => some (.exit id, l :: ls, st'.take m)
    | some (.ret, ly', st') => some (.ret, ly', st')
    | some (.pan p, ly', st') => some (.pan p, ly', st')
    | _ => none := by
  have mono := fun ly st n x => loopRun_mono body n ly st x
  have one : ∀ x, loopRun body 1 ly st = some x → loopLim body ly st = some x := fun x h => lim_eq (mono ly st) h
  cases hb : body ((st.length, []) :: ly) st with
  | none => exact lim_none fun n => by cases n <;> simp [loopRun, hb]
  | some r =>
    obtain ⟨x, ly', st'⟩ := r
    cases x with
    | norm =>
      match ly' with
      | [] => exact lim_none fun n => by cases n <;> simp [loopRun, hb]
      | [_] => exact lim_none fun n => by cases n <;> simp [loopRun, hb]
      | (m, e) :: l :: ls =>
        simp only
        cases hl : loopLim body (l :: ls) (st'.take m) with
        | none =>
          refine lim_none fun n => ?_
          cases n with
          | zero => rfl
          | succ n =>
            simp only [loopRun, hb]
            cases hr : loopRun body n (l :: ls) (st'.take m) with
            | none => rfl
            | some y =>
              have := lim_eq (mono _ _) hr
              unfold loopLim at hl
              rw [hl] at this; cases this
        | some y =>
          obtain ⟨n, hn⟩ := lim_some hl
          exact lim_eq (mono ly st) (n := n + 1) (by simp only [loopRun, hb]; exact hn)
    | exit id =>
      match ly' with
      | [] => exact lim_none fun n => by cases n <;> simp [loopRun, hb]
      | [_] => exact lim_none fun n => by cases n <;> simp [loopRun, hb]
      | (m, e) :: l :: ls => exact one _ (by simp [loopRun, hb])
    | ret => exact one _ (by simp [loopRun, hb])
    | pan p => exact one _ (by simp [loopRun, hb])

noncomputable def ACode.run (call : CallF) : ACode → Ly → St → Option CRes
  | .skip, ly, st => some (.norm, ly, st)
  | .seq a b, ly, st => match a.run call ly st with
    | some (.norm, ly1, st1) => b.run call ly1 st1
    | r => r
  | .reg os, ly, st => runOps call os ly st
  | .regd os, ly, st => runDraw call os ly st
  | .cond c a b, ly, st => match c.ev ly with
    | some (.pd (.bool true)) => a.run call ly st
    | some (.pd (.bool false)) => b.run call ly st
    | _ => none
  | .block id b, ly, st => match b.run call ly st with
    | some (.exit j, ly1, st1) => if j = id then some (.norm, ly1, st1) else some (.exit j, ly1, st1)
    | r => r
  | .loop b, ly, st => loopLim (b.run call) ly st
  | .exit id, ly, st => some (.exit id, ly, st)
  | .ret, ly, st => some (.ret, ly, st)
end Go.Proofs.Kh
