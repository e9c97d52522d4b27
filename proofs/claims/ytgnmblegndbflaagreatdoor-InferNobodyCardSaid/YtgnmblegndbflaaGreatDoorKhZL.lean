/- A function's form, looked up once; tables of them. -/
import Derived.Test.YtgnmblegndbflaaGreatDoorKhZK
namespace Go.Proofs.Kh
set_option linter.all false
set_option linter.unusedVariables false
set_option linter.unusedSimpArgs false
open Go

/-- The form of a function of the program. -/
def formOf (P : Program) (h : Hints) (f : FuncId) (md : Nat) : Option AFn :=
  match P.funcs[f]? with
  | some fn => match fn.body with
    | some c => match normCode P h fn.ntmps c, normRes P fn.results.toList with
      | some b, some rs => if fn.results.toList.length ≤ 4 ∧ fn.params.size + fn.nfree ≤ fn.ntmps ∧ (fn.name == "runtime.NumGoroutine") = false then some ⟨fn.params.size + fn.nfree, rs, b, md⟩ else none
      | _, _ => none
    | none => none
  | none => none

theorem formOf_fits {P : Program} {h : Hints} {f : FuncId} {md : Nat} {af : AFn} (hf : formOf P h f md = some af) : XFits P f (.a af) ∧ plainF P f = true := by
  unfold formOf at hf
  split at hf
  · rename_i fn h1
    split at hf
    · rename_i c h2
      split at hf
      · rename_i b rs h3 h4
        split at hf
        · rename_i h5
          injection hf with hf; subst hf
          refine ⟨⟨fn, c, h, fn.results.toList, h1, h2, h3, by simp, h5.1, h4, h5.2.1⟩, ?_⟩
          unfold plainF
          rw [h1]
          simp [h2, h5.2.2]
        · cases hf
      · cases hf
    · cases hf
  · cases hf

/-- The form of a deferred function. -/
def cformOf (P : Program) (h : Hints) (f : FuncId) : Option CFn :=
  match P.funcs[f]? with
  | some fn => match fn.body with
    | some c => match recOf c with
      | some (d, rest) => match normCode P h fn.ntmps rest with
        | some b => if d < fn.ntmps ∧ fn.results.toList.isEmpty = true ∧ fn.params.size ≤ fn.ntmps ∧ (fn.name == "runtime.NumGoroutine") = false then some ⟨fn.params.size, d, b⟩ else none
        | none => none
      | none => none
    | none => none
  | none => none

theorem cformOf_fits {P : Program} {h : Hints} {f : FuncId} {ct : CFn} (hf : cformOf P h f = some ct) : CFits P f ct := by
  unfold cformOf at hf
  split at hf
  · rename_i fn h1
    split at hf
    · rename_i c h2
      split at hf
      · rename_i d rest h3
        split at hf
        · rename_i b h4
          split at hf
          · rename_i h5
            injection hf with hf; subst hf
            refine ⟨fn, c, rest, h, h1, h2, h3, h5.1, h4, ?_, h5.2.2.1, ?_⟩
            · have := h5.2.1
              rw [List.isEmpty_iff] at this
              cases hr : fn.results with
              | mk l => rw [hr] at this; simp only at this; rw [this]
            · unfold plainF
              rw [h1]
              simp [h2, h5.2.2.2]
          · cases hf
        · cases hf
      · cases hf
    · cases hf
  · cases hf

/-- The form of a function with a deferred call. -/
def dformOf (P : Program) (h hc : Hints) (f : FuncId) (md : Nat) : Option DFn :=
  match P.funcs[f]? with
  | some fn => match fn.body with
    | some c => match normDC P h fn.ntmps c, normRes P fn.results.toList with
      | some (g, dc), some rs => match cformOf P hc g with
        | some ct => if fn.results.toList.length ≤ 4 ∧ fn.params.size + fn.nfree ≤ fn.ntmps ∧ (fn.name == "runtime.NumGoroutine") = false then some ⟨fn.params.size + fn.nfree, rs, dc, ct, md⟩ else none
        | none => none
      | _, _ => none
    | none => none
  | none => none

theorem dformOf_fits {P : Program} {h hc : Hints} {f : FuncId} {md : Nat} {df : DFn} (hf : dformOf P h hc f md = some df) : XFits P f (.d df) ∧ plainF P f = true := by
  unfold dformOf at hf
  split at hf
  · rename_i fn h1
    split at hf
    · rename_i c h2
      split at hf
      · rename_i g dc rs h3 h4
        split at hf
        · rename_i ct h6
          split at hf
          · rename_i h5
            injection hf with hf; subst hf
            refine ⟨⟨fn, c, h, fn.results.toList, g, h1, h2, h3, by simp, h5.1, h4, h5.2.1, cformOf_fits h6⟩, ?_⟩
            unfold plainF
            rw [h1]
            simp [h2, h5.2.2]
          · cases hf
        · cases hf
      · cases hf
    · cases hf
  · cases hf

/-- The form of a function, with a deferred call or without. -/
def xformOf (P : Program) (h hc : Hints) (f : FuncId) (md : Nat) : Option FX := match dformOf P h hc f md with
  | some df => some (.d df)
  | none => match formOf P h f md with
    | some af => some (.a af)
    | none => none

def look : List (Nat × FX) → FuncId → Option FX
  | [], _ => none
  | (k, a) :: r, f => if k = f then some a else look r f

def AllFit (P : Program) : List (Nat × FX) → Prop
  | [] => True
  | (k, a) :: r => (XFits P k a ∧ plainF P k = true) ∧ AllFit P r

theorem xformOf_fits {P : Program} {h hc : Hints} {f : FuncId} {md : Nat} {fx : FX} (hf : xformOf P h hc f md = some fx) : XFits P f fx ∧ plainF P f = true := by
  unfold xformOf at hf
  split at hf
  · rename_i df h1
    injection hf with hf; subst hf
    exact dformOf_fits h1
  · split at hf
    · rename_i af h1
      injection hf with hf; subst hf
      exact formOf_fits h1
    · cases hf

theorem look_fits {P : Program} : ∀ (l : List (Nat × FX)), AllFit P l → ∀ f af, look l f = some af → XFits P f af ∧ plainF P f = true
  | [], _, _, _, h => by cases h
  | (k, a) :: r, hl, f, af, h => by
    simp only [look] at h
    split at h
    · rename_i hk
      injection h with h; subst h; subst hk
      exact hl.1
    · exact look_fits r hl.2 f af h
end Go.Proofs.Kh
