/- Regions whose order is drawn: the order carried out here, as a list of what was done. -/
import Derived.Test.YtgnmblegndbflaaGreatDoorKhZA
namespace Go.Proofs.Kh
set_option linter.all false
set_option linter.unusedVariables false
set_option linter.unusedSimpArgs false
open Go

structure TE where
  d : DI
  ly : Ly
  st : St
  w : Bool
  x : AV
  st' : St

def TE.out (te : TE) : Ly := putO [] te.ly te.d.ao.dst te.x

structure TE.ok (call : CallF) (te : TE) : Prop where
  wants : wants te.ly te.d.ao.gd = some te.w
  on : te.w = true → te.d.ao.op.run call te.ly te.st = some (.ret te.x, te.st')
  off : te.w = false → te.x = .tup [] ∧ te.st' = te.st
  keep : te.d.chg = false → te.st' = te.st
  chk : te.d.chg = true → te.w = true → again call te.out te.st' te.d.chk

def Tra (call : CallF) : List TE → Ly → St → Prop
  | [], _, _ => True
  | te :: r, ly, st => te.ly = ly ∧ te.st = st ∧ te.ok call ∧ Tra call r te.out te.st'

def endL : List TE → Ly → Ly
  | [], ly => ly
  | te :: r, _ => endL r te.out

def endS : List TE → St → St
  | [], st => st
  | te :: r, _ => endS r te.st'

theorem trace_of {call : CallF} : ∀ (dl : List DI) (ly : Ly) (st : St) (x : AX) (lyF : Ly) (stF : St), runDraw call (dl.map DI.todo) ly st = some (x, lyF, stF) →
    ∃ T rest, dl = T.map TE.d ++ rest ∧ Tra call T ly st ∧
      ((x = .norm ∧ rest = [] ∧ lyF = endL T ly ∧ stF = endS T st) ∨
       (∃ p d rest', x = .pan p ∧ lyF = [(Ly.top (endL T ly), [])] ∧ rest = d :: rest' ∧ wants (endL T ly) d.ao.gd = some true ∧ d.ao.op.run call (endL T ly) (endS T st) = some (.pan p, stF) ∧ d.chg = true))
  | [], ly, st, x, lyF, stF, h => by
    simp only [List.map_nil, runDraw, Option.some.injEq, Prod.mk.injEq] at h
    obtain ⟨rfl, rfl, rfl⟩ := h
    exact ⟨[], [], rfl, trivial, .inl ⟨rfl, rfl, rfl, rfl⟩⟩
  | d :: r, ly, st, x, lyF, stF, h => by
    simp only [List.map_cons, runDraw, DI.todo] at h
    split at h
    · rename_i hw
      split at h
      · rename_i y st' hr
        split at h
        · rename_i hc
          split at h
          · rename_i hag
            obtain ⟨T, rest, h1, h2, h4⟩ := trace_of r _ _ _ _ _ h
            refine ⟨⟨d, ly, st, true, y, st'⟩ :: T, rest, by simp [h1], ⟨rfl, rfl, ⟨hw, fun _ => hr, (fun e => by cases e), (fun e => by rw [hc] at e; cases e), fun _ _ => hag⟩, h2⟩, h4⟩
          · cases h
        · rename_i hc
          split at h
          · rename_i hst
            obtain ⟨T, rest, h1, h2, h4⟩ := trace_of r _ _ _ _ _ h
            subst hst
            refine ⟨⟨d, ly, st', true, y, st'⟩ :: T, rest, by simp [h1], ⟨rfl, rfl, ⟨hw, fun _ => hr, (fun e => by cases e), fun _ => rfl, fun e => (hc e).elim⟩, h2⟩, h4⟩
          · cases h
      · rename_i p st' hr
        split at h
        · rename_i hc
          simp only [Option.some.injEq, Prod.mk.injEq] at h
          obtain ⟨rfl, rfl, rfl⟩ := h
          exact ⟨[], d :: r, rfl, trivial, .inr ⟨p, d, r, rfl, rfl, rfl, hw, hr, hc⟩⟩
        · cases h
      · cases h
    · rename_i hw
      obtain ⟨T, rest, h1, h2, h4⟩ := trace_of r _ _ _ _ _ h
      exact ⟨⟨d, ly, st, false, .tup [], st⟩ :: T, rest, by simp [h1], ⟨rfl, rfl, ⟨hw, (fun e => by cases e), fun _ => ⟨rfl, rfl⟩, fun _ => rfl, fun _ e => by cases e⟩, h2⟩, h4⟩
    · cases h

def lyN (T : List TE) (ly : Ly) (p : Nat) : Ly := endL (T.take p) ly
def stN (T : List TE) (st : St) (p : Nat) : St := endS (T.take p) st

theorem trace_at {call : CallF} : ∀ (T : List TE) (ly : Ly) (st : St), Tra call T ly st → ∀ (p : Nat) (te : TE), T[p]? = some te → te.ok call ∧ lyN T ly p = te.ly ∧ stN T st p = te.st ∧ lyN T ly (p + 1) = te.out ∧ stN T st (p + 1) = te.st'
  | [], _, _, _, p, te, h => by simp at h
  | t :: r, ly, st, ht, p, te, h => by
    obtain ⟨h1, h2, h3, h4⟩ := ht
    cases p with
    | zero =>
      simp at h; subst h
      exact ⟨h3, by simp [lyN, endL, h1], by simp [stN, endS, h2], by simp [lyN, endL], by simp [stN, endS]⟩
    | succ p =>
      simp at h
      obtain ⟨g1, g2, g3, g4, g5⟩ := trace_at r _ _ h4 p te h
      exact ⟨g1, by simpa [lyN, endL] using g2, by simpa [stN, endS] using g3, by simpa [lyN, endL] using g4, by simpa [stN, endS] using g5⟩

theorem lyN_end (T : List TE) (ly : Ly) : lyN T ly T.length = endL T ly := by simp [lyN]
theorem stN_end (T : List TE) (st : St) : stN T st T.length = endS T st := by simp [stN]

theorem stN_flat {call : CallF} {T : List TE} {ly : Ly} {st : St} (ht : Tra call T ly st) {a : Nat} : ∀ (b : Nat), a ≤ b → (∀ p te, T[p]? = some te → a ≤ p → p < b → te.d.chg = false) → stN T st a = stN T st b := by
  intro b hab
  induction b with
  | zero => intro _; have : a = 0 := by omega
            rw [this]
  | succ b ih =>
    intro h
    by_cases he : a = b + 1
    · rw [he]
    · rw [ih (by omega) fun p te hp h1 h2 => h p te hp h1 (by omega)]
      cases hb : T[b]? with
      | none =>
        have : T.length ≤ b := by simpa using hb
        simp [stN, List.take_of_length_le this, List.take_of_length_le (show T.length ≤ b + 1 by omega)]
      | some te =>
        obtain ⟨g1, g2, g3, g4, g5⟩ := trace_at T ly st ht b te hb
        rw [g3, g5, g1.keep (h b te hb (by omega) (by omega))]

/-- A slot that is turned by nothing between holds what it held. -/
theorem lyN_flat {call : CallF} {T : List TE} {ly : Ly} {st : St} (ht : Tra call T ly st) {s a : Nat} : ∀ (b : Nat), a ≤ b → (∀ p te, T[p]? = some te → a ≤ p → p < b → te.d.ao.dst ≠ some s) → Ly.get (lyN T ly a) s = Ly.get (lyN T ly b) s := by
  intro b hab
  induction b with
  | zero => intro _; have : a = 0 := by omega
            rw [this]
  | succ b ih =>
    intro h
    by_cases he : a = b + 1
    · rw [he]
    · rw [ih (by omega) fun p te hp h1 h2 => h p te hp h1 (by omega)]
      cases hb : T[b]? with
      | none =>
        have : T.length ≤ b := by simpa using hb
        simp [lyN, List.take_of_length_le this, List.take_of_length_le (show T.length ≤ b + 1 by omega)]
      | some te =>
        obtain ⟨g1, g2, g3, g4, g5⟩ := trace_at T ly st ht b te hb
        rw [g2, g4]
        have hne := h b te hb (by omega) (by omega)
        unfold TE.out
        cases hd : te.d.ao.dst with
        | none => rfl
        | some d =>
          rw [hd] at hne
          exact (lyPut_get [] te.ly d te.x s (fun e => hne (by rw [e]))).symm

theorem lyPut_fstN (st : St) (ly : Ly) (d : Option Nat) (v : AV) (k : Nat) (h : ∃ e, (k, e) ∈ putO st ly d v) : ∃ e, (k, e) ∈ ly := by
  cases d with
  | none => exact h
  | some d => exact lyPut_marks st ly d v k h

theorem endL_marks {call : CallF} : ∀ (T : List TE) (ly : Ly) (st : St), Tra call T ly st → (∀ k, (∃ e, (k, e) ∈ endL T ly) → ∃ e, (k, e) ∈ ly) ∧ (Ly.fits ly → Ly.fits (endL T ly)) ∧ Ly.top (endL T ly) = Ly.top ly ∧ (ly ≠ [] → endL T ly ≠ [])
  | [], ly, _, _ => ⟨fun _ h => h, fun h => h, rfl, fun h => h⟩
  | te :: r, ly, st, ht => by
    obtain ⟨h1, h2, h3, h4⟩ := ht
    obtain ⟨g1, g2, g3, g4⟩ := endL_marks r _ _ h4
    refine ⟨fun k hk => ?_, fun hf => ?_, ?_, fun hn => ?_⟩
    · have := lyPut_fstN [] te.ly te.d.ao.dst te.x k (g1 k hk)
      rwa [h1] at this
    · refine g2 ?_
      unfold TE.out
      rw [h1]
      cases te.d.ao.dst with
      | none => exact hf
      | some d => exact lyPut_fits _ _ _ _ hf
    · rw [endL, g3]
      unfold TE.out
      rw [h1]
      cases te.d.ao.dst with
      | none => rfl
      | some d => exact lyPut_top _ _ _ _
    · refine g4 ?_
      unfold TE.out
      rw [h1]
      cases te.d.ao.dst with
      | none => exact hn
      | some d =>
        intro h0
        cases ly with
        | nil => exact hn rfl
        | cons p r' =>
          obtain ⟨m, e⟩ := p
          simp only [putO] at h0
          unfold lyPut at h0
          cases hx : Env.get e d with
          | some y => simp [hx] at h0
          | none => cases hy : Ly.get r' d <;> simp [hx, hy] at h0

theorem Tra.take {call : CallF} : ∀ (T : List TE) (ly : Ly) (st : St), Tra call T ly st → ∀ p, Tra call (T.take p) ly st
  | [], _, _, _, _ => by simp [Tra]
  | te :: r, ly, st, ht, p => by
    cases p with
    | zero => simp [Tra]
    | succ p => exact ⟨ht.1, ht.2.1, ht.2.2.1, Tra.take r _ _ ht.2.2.2 p⟩
end Go.Proofs.Kh
