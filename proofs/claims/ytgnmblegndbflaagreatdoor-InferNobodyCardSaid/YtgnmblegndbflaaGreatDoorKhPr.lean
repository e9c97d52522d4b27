/- slices.Clone, taken as it is: what it does, and that it does so. -/
import Derived.Test.YtgnmblegndbflaaGreatDoorKhEv
import Derived.Laws.Cover3
namespace Go.Proofs.Kh
set_option linter.all false
set_option linter.unusedVariables false
set_option linter.unusedSimpArgs false
open Go

/-- What Clone does behind its look for nil. -/
def cloneBody (sz bytes : Nat) : ACode := .seq (.reg [⟨some 5, .bsl sz [], none⟩, ⟨some 6, .mov (.t 0), none⟩, ⟨some 7, .app sz bytes false (.t 5) (.t 6), none⟩, ⟨some 2, .mov (.t 7), none⟩]) .ret

/-- A Clone: the size of an element's cells, its bytes. -/
structure Prim where
  sz : Nat
  bytes : Nat

def Prim.run (p : Prim) (xs : List AV) (st : St) : Option Out :=
  match xs with
  | [x] => match elems st x with
    | some [] => val (.tight []) st
    | some (y :: ys) => if sized p.sz (y :: ys) && decide ((y :: ys).length * p.bytes ≤ 140737488355328) && decide ((y :: ys).length ≤ 9223372036854775807) then val (.row st.length (y :: ys).length) (st ++ [.row false p.sz (y :: ys)]) else none
    | none => none
  | _ => none

def primOf (l : List (FuncId × Prim)) : CallF := fun f xs st => match l.lookup f with
  | some p => p.run xs st
  | none => none

def cloneOf : Code → Option (TypeId × Code)
  | .seq (.region _ r0 false) (.seq (.seq (.region _ r1 false) (.cond (.tmp c) (.seq (.region _ r2 false) .ret) .skip)) rest) => match r0.toList, r1.toList, r2.toList with
    | [o0], [o1, o2], [o3] => match o0.op, o1.op, o2.op, o3.op with
      | .assign (.const (.slice none 0 0)), .move (.tmp 0), .binOp .eql t (.tmp 3) (.const (.slice none 0 0)) _, .assign (.const (.slice none 0 0)) =>
        if c = 4 ∧ o0.dst = some 2 ∧ o1.dst = some 3 ∧ o2.dst = some 4 ∧ o3.dst = some 2 ∧ o0.guard = none ∧ o1.guard = none ∧ o2.guard = none ∧ o3.guard = none then some (t, rest) else none
      | _, _, _, _ => none
    | _, _, _ => none
  | _ => none

/-- What there is to know of a Clone: its form behind the look for nil. -/
def cloneForm (P : Program) (f : FuncId) : Option ACode :=
  match P.funcs[f]? with
  | some fn => match fn.body with
    | some c => match cloneOf c with
      | some (t, rest) => match P.underlying t, normCode P ⟨[], [], []⟩ fn.ntmps rest, fn.results.toList with
        | some (.slice _), some b, [.tmp 2] => if 4 < fn.ntmps ∧ (fn.name == "runtime.NumGoroutine") = false then some b else none
        | _, _, _ => none
      | none => none
    | none => none
  | none => none

def CloneFits (P : Program) (f : FuncId) (p : Prim) : Prop := cloneForm P f = some (cloneBody p.sz p.bytes)

theorem cloneOf_inv {c : Code} {t : TypeId} {rest : Code} (h : cloneOf c = some (t, rest)) : ∃ i0 i1 i2 o0 o1 o2 o3 u, c = .seq (.region i0 #[o0] false) (.seq (.seq (.region i1 #[o1, o2] false) (.cond (.tmp 4) (.seq (.region i2 #[o3] false) .ret) .skip)) rest) ∧
    o0.op = .assign (.const (.slice none 0 0)) ∧ o1.op = .move (.tmp 0) ∧ o2.op = .binOp .eql t (.tmp 3) (.const (.slice none 0 0)) u ∧ o3.op = .assign (.const (.slice none 0 0)) ∧
    o0.dst = some 2 ∧ o1.dst = some 3 ∧ o2.dst = some 4 ∧ o3.dst = some 2 ∧ o0.guard = none ∧ o1.guard = none ∧ o2.guard = none ∧ o3.guard = none := by
  unfold cloneOf at h
  split at h
  · rename_i i0 r0 i1 r1 cc i2 r2 rest'
    split at h
    · rename_i o0 o1 o2 o3 h0 h1 h2
      split at h
      · rename_i t' u g0 g1 g2 g3
        split at h
        · rename_i hc
          simp only [Option.some.injEq, Prod.mk.injEq] at h
          obtain ⟨rfl, rfl⟩ := h
          obtain ⟨rfl, d0, d1, d2, d3, e0, e1, e2, e3⟩ := hc
          refine ⟨i0, i1, i2, o0, o1, o2, o3, u, ?_, g0, g1, g2, g3, d0, d1, d2, d3, e0, e1, e2, e3⟩
          cases r0 with
          | mk l0 => cases r1 with
            | mk l1 => cases r2 with
              | mk l2 =>
                simp only at h0 h1 h2
                subst h0; subst h1; subst h2
                rfl
        · cases h
      · cases h
    · cases h
  · cases h

section
variable {P : Program} {G : Gh} {st : St} {w : World} {call : CallF}

theorem tail_elems {x : AV} {xs : List PD} (h : elems st x = some xs) : tail st x = some xs := by
  unfold tail
  split
  · cases h
  · exact h

/-- What the piece behind the look comes to. -/
theorem cloneBody_run {sz bytes : Nat} {x : AV} {xs : List PD} {m : Nat} (hx : elems st x = some xs) (h : xs = [] ∨ (sized sz xs && decide (xs.length * bytes ≤ 140737488355328) && decide (xs.length ≤ 9223372036854775807)) = true) :
    ∃ ly, (cloneBody sz bytes).run call [(m, [(4, .pd (.bool false)), (3, x), (2, .nil), (0, x)])] st = some (.ret, ly, if xs = [] then st else st ++ [.row false sz xs]) ∧
      ((xs = [] ∧ Ly.get ly 2 = some (.tight [])) ∨ (xs ≠ [] ∧ Ly.get ly 2 = some (.row st.length xs.length))) := by
  cases xs with
  | nil =>
    refine ⟨[(m, [(7, .tight []), (6, x), (5, .tight []), (4, .pd (.bool false)), (3, x), (2, .tight []), (0, x)])], ?_, .inl ⟨rfl, ?_⟩⟩
    · simp [cloneBody, ACode.run, runOps, wants, AOp.run, evL, toPDs, sized, frzA, putO, lyPut, Env.get, Env.set, Ly.get, Opd.ev, val, doApp, elems, tail_elems hx]
    · simp [Ly.get, Env.get]
  | cons y ys =>
    have hs := h.resolve_left (by simp)
    simp only [Bool.and_eq_true, decide_eq_true_eq, List.length_cons] at hs
    refine ⟨[(m, [(7, .row st.length (y :: ys).length), (6, x), (5, .tight []), (4, .pd (.bool false)), (3, x), (2, .row st.length (y :: ys).length), (0, x)])], ?_, .inr ⟨by simp, ?_⟩⟩
    · simp [cloneBody, ACode.run, runOps, wants, AOp.run, evL, toPDs, frzA, putO, lyPut, Env.get, Env.set, Ly.get, Opd.ev, val, doApp, elems, tail_elems hx, hs.1.1, hs.1.2, hs.2, show sized sz [] = true from rfl]
    · simp [Ly.get, Env.get]
end
end Go.Proofs.Kh
