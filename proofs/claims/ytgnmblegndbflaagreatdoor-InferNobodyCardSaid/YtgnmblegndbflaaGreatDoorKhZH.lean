/- How a function comes back: what it gives is made firm, and what it laid is gone. -/
import Derived.Test.YtgnmblegndbflaaGreatDoorKhZG
namespace Go.Proofs.Kh
set_option linter.all false
set_option linter.unusedVariables false
set_option linter.unusedSimpArgs false
open Go

inductive RV where
  | sl (slot : Nat)
  | ce (agg : Bool) (n : Nat) (slot : Nat)

def RV.ev (ly : Ly) (st : St) : RV → Option AV
  | .sl s => Ly.get ly s
  | .ce g n s => match Ly.get ly s with
    | some (.ptr id off) => doLoad g n st (.ptr id off)
    | _ => none

def evRes (ly : Ly) (st : St) : List RV → Option (List AV)
  | [] => some []
  | r :: rs => match r.ev ly st, evRes ly st rs with
    | some x, some xs => some (x :: xs)
    | _, _ => none

def oneOf : List AV → AV
  | [x] => x
  | xs => .tup xs

def normRV (P : Program) : ResultVar → Option RV
  | .tmp t => some (.sl t)
  | .cell a t => match aggOf P t, sizeT P t with
    | some g, some n => some (.ce g n a)
    | _, _ => none

def normRes (P : Program) : List ResultVar → Option (List RV)
  | [] => some []
  | r :: rs => match normRV P r, normRes P rs with
    | some x, some xs => some (x :: xs)
    | _, _ => none

def rvRun (tmps : Array Value) : ResultVar → Sem Value
  | .tmp t => pure (tmps.getD t undef)
  | .cell a t => do loadVar t (← asAddr (tmps.getD a undef))

theorem results_eq (fn : Func) (tmps : Array Value) : results fn tmps = (do
    let vs ← fn.results.mapM (rvRun tmps)
    pure (if h : vs.size = 1 then vs[0] else .tuple vs)) := rfl

def oneV : List Value → Value
  | [v] => v
  | vs => .tuple vs.toArray

theorem run_results {P : Program} {w : World} {fn : Func} {tmps : Array Value} : ∀ (l : List ResultVar) (vs : List Value), fn.results = l.toArray → l.length ≤ 4 → l.length = vs.length → (∀ (k : Nat) r v, l[k]? = some r → vs[k]? = some v → (rvRun tmps r).run P w = .ok v w) →
    (results fn tmps).run P w = .ok (oneV vs) w
  | [], [], h, _, _, _ => by simp [results_eq, h, oneV]
  | [r], [v], h, _, _, hv => by
    have h0 := hv 0 r v rfl rfl
    simp [results_eq, h, oneV, h0]
  | [r, r2], [v, v2], h, _, _, hv => by
    have h0 := hv 0 r v rfl rfl
    have h1 := hv 1 r2 v2 rfl rfl
    simp [results_eq, h, oneV, h0, h1]
  | [r, r2, r3], [v, v2, v3], h, _, _, hv => by
    have h0 := hv 0 r v rfl rfl
    have h1 := hv 1 r2 v2 rfl rfl
    have h2 := hv 2 r3 v3 rfl rfl
    simp [results_eq, h, oneV, h0, h1, h2]
  | [r, r2, r3, r4], [v, v2, v3, v4], h, _, _, hv => by
    have h0 := hv 0 r v rfl rfl
    have h1 := hv 1 r2 v2 rfl rfl
    have h2 := hv 2 r3 v3 rfl rfl
    have h3 := hv 3 r4 v4 rfl rfl
    simp [results_eq, h, oneV, h0, h1, h2, h3]
  | _ :: _ :: _ :: _ :: _ :: _, _, _, hl, _, _ => by simp at hl

section
variable {P : Program} {G : Gh} {st : St} {w : World} {a : Act} {ly : Ly}

theorem rv_rel (inv : Inv G st w) (he : EnvRel G st a ly) {r : ResultVar} {rv : RV} {x : AV} (hn : normRV P r = some rv) (hx : rv.ev ly st = some x) : ∃ v, (rvRun a.tmps r).run P w = .ok v w ∧ RelV G st v x := by
  cases r with
  | tmp t =>
    simp only [normRV, Option.some.injEq] at hn; subst hn
    obtain ⟨v, h1, h2⟩ := he t x hx
    exact ⟨v, by simp [rvRun, Array.getD_eq_getD_getElem?, h1], h2⟩
  | cell s t =>
    simp only [normRV] at hn
    split at hn
    · rename_i g n h1 h2
      injection hn with hn; subst hn
      simp only [RV.ev] at hx
      split at hx
      · rename_i id off hs
        obtain ⟨v, e1, e2⟩ := he s _ hs
        unfold sizeT at h2
        obtain ⟨i, hi, hin⟩ := Option.map_eq_some_iff.1 h2
        subst hin
        simp only [doLoad] at hx
        split at hx
        · rename_i cells hcs
          cases e2 with
          | ptr _ _ b c hid hr hp =>
            rcases (inv.objs id _ hcs).2 with h0 | ⟨b', c', cur, T, q1, q2, q3, q4, q5, q6⟩
            · rw [h0] at hp; cases hp
            · rw [hp] at q1; injection q1 with q1; injection q1 with q1 q1'; subst q1; subst q1'
              obtain ⟨v, hv1, hv2⟩ := load_cells0 (P := P) (w := w) (G := G) (st := st) (b := b) (o := 0) (f := fun j => cur.getD j undef) (off := off) (cells := cells) hi h1 (fun j cc hj => by
                have hl : j < cells.length := (List.getElem?_eq_some_iff.1 hj).1
                have hl' : j < cur.size := by omega
                refine ⟨cur[j], ?_, by simp [hl'], q4 j _ (by simp [hl']), q5 j _ cc (by simp [hl']) hj⟩
                rw [Nat.zero_add, cell_of_row w b j cur T _ q2]; simp [hl']) hx
              rw [Nat.zero_add] at hv1
              refine ⟨v, ?_, hv2⟩
              simp only [rvRun, Array.getD_eq_getD_getElem?, e1, Option.getD_some, asAddr, Sem.run_bind, Sem.run_pure, Result.andThen_ok]
              exact hv1
        · cases hx
      · cases hx
    · cases hn
end
end Go.Proofs.Kh
